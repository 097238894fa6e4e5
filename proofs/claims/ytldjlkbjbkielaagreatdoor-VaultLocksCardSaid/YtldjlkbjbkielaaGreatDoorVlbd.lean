/- Locks: Free, New; the two ways to tell what an operation locks. -/
import Derived.Test.YtldjlkbjbkielaaGreatDoorVlbc
import Derived.Test.YtldjlkbjbkielaaGreatDoorVlbb
set_option linter.unusedSimpArgs false
set_option linter.unusedVariables false
namespace Go.Abs
open Go
theorem rmv_filter {κ α : Type} [DecidableEq κ] (k : κ) : ∀ {l : List (κ × α)}, (keysL l).Nodup → rmv k l = l.filter fun e => decide (e.1 ≠ k)
 | [], _ => rfl
 | (a, u) :: l, hn => by
  have hn' : a ∉ keysL l ∧ (keysL l).Nodup := List.nodup_cons.1 hn
  by_cases hk : a = k
  · rw [rmv, if_pos hk, List.filter_cons_of_neg (by simp [hk])]
    refine (List.filter_eq_self.2 fun e he => ?_).symm
    have : e.1 ≠ k := fun e1 => hn'.1 (by rw [hk, ← e1]; exact List.mem_map.2 ⟨e, he, rfl⟩)
    simpa using this
  · rw [rmv, if_neg hk, List.filter_cons_of_pos (by simpa using hk), rmv_filter k hn'.2]
theorem rmvs_filter {κ α : Type} [DecidableEq κ] : ∀ (ks : List κ) {l : List (κ × α)}, (keysL l).Nodup → ks.foldl (fun m k => rmv k m) l = l.filter fun e => decide (e.1 ∉ ks)
 | [], l, _ => (List.filter_eq_self.2 fun _ _ => by simp).symm
 | k :: ks, l, hn => by
  rw [List.foldl_cons, rmvs_filter ks (nodup_rmv hn), rmv_filter k hn, List.filter_filter]
  refine List.filter_congr fun e _ => ?_
  by_cases h1 : e.1 = k <;> by_cases h2 : e.1 ∈ ks <;> simp [h1, h2]
theorem free_filter {id : IdM} {lk : List (KeyM × IdM)} (hn : (keysL lk).Nodup) {ks : List KeyM} (hk : ∀ k, k ∈ ks ↔ (k, id) ∈ lk) : ks.foldl (fun m k => rmv k m) lk = freeL id lk := by
 rw [rmvs_filter ks hn]
 refine List.filter_congr fun e he => ?_
 congr 1
 rw [hk]
 refine propext (not_congr ⟨fun h => ?_, fun h => ?_⟩)
 · have h1 := lkp_of hn (show (e.1, e.2) ∈ lk from he)
   have h2 := lkp_of hn h
   rw [h1] at h2
   exact Option.some.inj h2
 · rw [← h]; exact he
theorem lockO_of (o : Oq) : lockO o = lockOf o := by
 unfold lockO lockOf
 by_cases h1 : 3 ≤ o.fn ∧ o.fn ≤ 5
 · have hk : kindOf o.fn = 1 := by unfold kindOf; rw [if_pos h1]
   rw [if_pos hk, if_pos h1]
 · have hk : kindOf o.fn ≠ 1 := by
    unfold kindOf
    rw [if_neg h1]
    by_cases h2 : 6 ≤ o.fn ∧ o.fn ≤ 9
    · rw [if_pos h2]; decide
    · rw [if_neg h2]
      by_cases h3 : 10 ≤ o.fn ∧ o.fn ≤ 12
      · rw [if_pos h3]; decide
      · rw [if_neg h3]; decide
   rw [if_neg hk, if_neg h1]
variable {E : FE} {F : Fr} {h : AHeap} {L : List Pl} {p v : V} {lk : List (KeyM × IdM)} {ks : List KeyM}
theorem Sep.nodupM {κ α : Type} [DecidableEq κ] {D : KD κ} {A : κ → V → α → Pl} {m : Nat} {l : List (κ × α)} (s : Sep F h (plGM D A m l :: L)) : (keysL l).Nodup := by
 obtain ⟨_, _, q, _⟩ := s.openM
 exact q.nd
theorem lock_Free {E1 : FE} (hM : MonoI E.I) (hE : E.I (E.k 9) = some (cl (Go.Abs.F.lock_order E1))) (id : IdM) (s : Sep F h (plLk p lk :: L)) (hl : lk.length ≤ 1000000)
 (hn : (lk.filter fun e => decide (e.2 = id)).length ≤ 12) :
 cl (Go.Abs.F.lock_Locks_Free E) [p, id.agg] h fun r h' => (∃ n : Nat, r = i64 n) ∧ Sep F h' (plLk p (freeL id lk) :: L) := by
 refine cl_of ?_
 simp only [Go.Abs.F.lock_Locks_Free, new2, kP_some]
 have s1 := s.box (cId id) 2
 rw [ld2 s1.get, kv_some]
 refine cl_then (lock_Has hM hE id s1.drop hl hn) ?_
 rintro r h1 ⟨ks, hks, hkn, s2⟩
 obtain ⟨f0, q0, _⟩ := s2.head
 have q0 : SlE dKey h1 f0 r ks := q0
 rw [q0.len, kv_some]
 obtain ⟨b, m, rfl, s3⟩ := s2.up1.openLk
 have hnd := s3.drop.nodupM
 refine ⟨fun n vs h' => ∃ i : Nat, vs = [i64 i] ∧ n = ks.length - i ∧ i ≤ ks.length ∧ Sep F h' (plGM kdKey lkV m ((ks.take i).foldl (fun m k => rmv k m) lk) :: plBox b [.map (some m)] 1 :: plKs r ks :: L), ks.length, ⟨0, rfl, by omega, by omega, by simpa using s3.up1⟩, ?_⟩
 rintro n e h2 ⟨i, he, rfl, hi, s4⟩
 simp only [List.cons.injEq, and_true] at he
 simp only [he, bin_lss, kv_some, ifV_bool, decide_eq_true_eq]
 obtain ⟨f1, q1, _⟩ := s4.up2.head
 have q1 : SlE dKey h2 f1 r ks := q1
 have hsz : ks.length ≤ 1000000 := by omega
 rcases Nat.lt_or_ge i ks.length with hx | hx
 case inr =>
  rw [if_neg (show ¬ ((i : Nat) : Int) < (ks.length : Nat) by omega)]
  have hil : i = ks.length := by omega
  subst hil
  rw [List.take_length, free_filter hnd hks] at s4
  rw [q1.len, kv_some]
  exact ⟨⟨_, rfl⟩, Sep.closeLk (s4.up2.drop.up1)⟩
 rw [if_pos (show ((i : Nat) : Int) < (ks.length : Nat) by omega)]
 have hg : ks[i]? = some ks[i] := List.getElem?_eq_getElem hx
 obtain ⟨c, i1, i2⟩ := q1.ld hg
 have i1 : indexAddrD (.slice 3) _ _ = _ := i1
 have i2 : ldD (.agg 3) _ _ = some (ks[i]).agg := i2
 have hnext : (ks.take (i + 1)).foldl (fun m k => rmv k m) lk = rmv ks[i] ((ks.take i).foldl (fun m k => rmv k m) lk) := by
  rw [List.take_add_one, hg, Option.toList_some, List.foldl_append]; rfl
 generalize ks[i] = k at i2 hnext
 simp only [i1, kv_some, i2, newK0, kP_some]
 have s5 := s4.box (dKey.enc ⟨⟨#[]⟩, ⟨#[]⟩, false⟩) 3
 rw [st3 s5.get, kH_some]
 have s6 := s5.write (cs' := dKey.enc k)
 generalize (h2.new (.cells (dKey.enc ⟨⟨#[]⟩, ⟨#[]⟩, false⟩) 3 .rw)).put h2.next (.cells (dKey.enc k) 3 .rw) = h3 at s6 ⊢
 have r1 : h3.rd b 0 = some (.map (some m)) := by rw [rd_of s6.drop.drop.get 0]; rfl
 simp only [aNil_ptr, fieldAddr_ptr, kv_some, ld_one, Nat.zero_add, r1, ld3 s6.get]
 obtain ⟨h4, e4, s7⟩ := Sep.delM (k := k) (z := .agg #[(.int .i64 0), (.int .i64 0)]) s6.drop
 have e4 : deleteD (some ((.struct false [(0, .string), (1, .string), (2, .bool)]), (some (.agg #[(.int .i64 0), (.int .i64 0)])))) (.map (some m)) k.agg h3 = some h4 := e4
 rw [e4, kH_some, add_i64 _ 1 (by omega) (by omega), kv_some]
 exact ⟨ks.length - (i + 1), by omega, i + 1, by simp, rfl, by omega, by rw [hnext]; exact s7⟩
theorem lock_New (s : Sep F h L) : cl (Go.Abs.F.lock_New E) [] h fun r h' => Sep F h' (plLk r [] :: L) := by
 refine cl_of ?_
 simp only [Go.Abs.F.lock_New]
 have e1 : makeMapD true none h = some (.map (some h.next), h.new (.map [] 0)) := rfl
 rw [e1, kP_some]
 have s1 := s.newM (D := kdKey) (A := lkV)
 generalize h.new (.map [] 0) = h1 at s1 ⊢
 generalize h.next = m at s1 ⊢
 have e2 : buildD (.struct [(.map none)] [(0, 1)]) [(0, .map (some m))] = some (.agg #[.map (some m)]) := rfl
 have e3 : newD none (.agg #[.map (some m)]) h1 = some (ptr h1.next 0, h1.new (.cells [.map (some m)] 1 .rw)) := rfl
 rw [e2, kv_some, e3, kP_some]
 exact Sep.closeLk (s1.box [.map (some m)] 1)
end Go.Abs
namespace Go.Abs
open Go
variable {E : FE} {F : Fr} {h : AHeap} {L : List Pl} {p v : V} {ov : List IdM}
def idV (_ : IdM) (v : V) (_ : Unit) : Pl := plPure (v = .bool true)
def plIds (p : V) (ov : List IdM) : Pl := plEx fun (y : Nat × Nat × List (IdM × Unit)) => plAll [plPure (p = ptr y.1 0 ∧ (keysL y.2.2).Perm ov), plBox y.1 [.map (some y.2.1)] 1, plGM kdId idV y.2.1 y.2.2]
theorem Sep.openIds (s : Sep F h (plIds p ov :: L)) : ∃ b m l, p = ptr b 0 ∧ (keysL l).Perm ov ∧ Sep F h (plBox b [.map (some m)] 1 :: plGM kdId idV m l :: L) := by
 obtain ⟨⟨b, m, l⟩, s⟩ := s.ex
 have s1 := s.all
 obtain ⟨e, s2⟩ := Sep.pure (L := plBox b [.map (some m)] 1 :: plGM kdId idV m l :: L) s1
 exact ⟨b, m, l, e.1, e.2, s2⟩
theorem Sep.closeIds {b m : Nat} {l : List (IdM × Unit)} (hp : (keysL l).Perm ov) (s : Sep F h (plBox b [.map (some m)] 1 :: plGM kdId idV m l :: L)) : Sep F h (plIds (ptr b 0) ov :: L) :=
 Sep.mkEx (A := fun (y : Nat × Nat × List (IdM × Unit)) => plAll [plPure (ptr b 0 = ptr y.1 0 ∧ (keysL y.2.2).Perm ov), plBox y.1 [.map (some y.2.1)] 1, plGM kdId idV y.2.1 y.2.2]) (b, m, l)
  (Sep.mkAll (L' := [plPure (ptr b 0 = ptr b 0 ∧ (keysL l).Perm ov), plBox b [.map (some m)] 1, plGM kdId idV m l]) (Sep.mkPure ⟨rfl, hp⟩ s))
theorem Sep.lookId {m : Nat} {l : List (IdM × Unit)} (s : Sep F h (plGM kdId idV m l :: L)) (hp : (keysL l).Perm ov) (id : IdM) :
 lookupD (some ((.struct false [(0, .int), (1, .int)]), (some (.bool false)))) (.map (some m)) id.agg false h = some (.bool (decide (id ∈ ov))) := by
 cases hk : Go.Abs.lkp id l with
 | none =>
  have h1 := s.lookNone (z := .bool false) hk false
  have h1 : lookupD (some ((.struct false [(0, .int), (1, .int)]), (some (.bool false)))) (.map (some m)) id.agg false h = some (.bool false) := h1
  rw [h1]
  have : id ∉ ov := fun hm => lkp_none.1 hk (hp.mem_iff.2 hm)
  simp [this]
 | some x =>
  obtain ⟨w, h1, s1⟩ := s.lookSome (z := .bool false) hk false
  have h1 : lookupD (some ((.struct false [(0, .int), (1, .int)]), (some (.bool false)))) (.map (some m)) id.agg false h = some w := h1
  obtain ⟨hw, _⟩ := Sep.pure (φ := w = .bool true) s1
  rw [h1, hw]
  have : id ∈ ov := hp.mem_iff.1 (List.mem_map.2 ⟨_, lkp_mem hk, rfl⟩)
  simp [this]
theorem ids_Has (id : IdM) (s : Sep F h (plIds p ov :: L)) :
 cl (Go.Abs.F.name_Ids_Has E) [p, id.agg] h fun r h' => r = .bool (decide (id ∈ ov)) ∧ Sep F h' (plIds p ov :: L) := by
 refine cl_of ?_
 obtain ⟨b, m, l, rfl, hp, s0⟩ := s.openIds
 simp only [Go.Abs.F.name_Ids_Has, new2, kP_some, ptr_ne_nil, kv_some, gdV_bool, if_true, aNil_ptr, fieldAddr_ptr, ld_one, Nat.zero_add]
 have s1 := s0.box (cId id) 2
 generalize h.new (.cells (cId id) 2 .rw) = h1 at s1 ⊢
 generalize h.next = bi at s1 ⊢
 have r1 : h1.rd b 0 = some (.map (some m)) := by rw [rd_of s1.drop.get 0]; rfl
 rw [r1, kv_some, ld2 s1.get, kv_some, (Sep.lookId s1.drop.drop hp id), kv_some]
 simp only [pickV_bool, if_true, kv_some]
 exact ⟨trivial, Sep.closeIds hp s1.drop⟩
theorem ids_Add (id : IdM) (s : Sep F h (plIds p ov :: L)) :
 cl (Go.Abs.F.name_Ids_Add E) [p, id.agg] h fun r h' => r = .bool (!decide (id ∈ ov)) ∧ Sep F h' (plIds p (if id ∈ ov then ov else id :: ov) :: L) := by
 refine cl_of ?_
 obtain ⟨b, m, l, rfl, hp, s0⟩ := s.openIds
 simp only [Go.Abs.F.name_Ids_Add, new2, kP_some, ptr_eq_nil, kv_some, gdV_bool, if_true, aNil_ptr, fieldAddr_ptr, ld_one, Nat.zero_add]
 have s1 := s0.box (cId id) 2
 generalize h.new (.cells (cId id) 2 .rw) = h1 at s1 ⊢
 generalize h.next = bi at s1 ⊢
 have r1 : h1.rd b 0 = some (.map (some m)) := by rw [rd_of s1.drop.get 0]; rfl
 rw [r1, kv_some, ld2 s1.get, kv_some, (Sep.lookId s1.drop.drop hp id), kv_some]
 simp only [pickV_bool, Bool.false_eq_true, if_false, kv_some, ifV_bool, decide_eq_true_eq]
 by_cases hm : id ∈ ov
 · rw [if_pos hm, if_pos hm]
   exact ⟨by simp [hm], Sep.closeIds hp s1.drop⟩
 · rw [if_neg hm, if_neg hm]
   obtain ⟨h4, e4, s4⟩ := Sep.insM (D := kdId) (A := idV) (k := id) (v := .bool true) (x := ()) (z := .bool false) (Sep.up1 (Sep.mkPure (φ := (Value.bool true : V) = .bool true) rfl s1.drop.up1))
   have e4 : mapUpdateD (some ((.struct false [(0, .int), (1, .int)]), (some (.bool false)))) (.map (some m)) id.agg (.bool true) h1 = some h4 := e4
   rw [e4, kH_some]
   refine ⟨by simp [hm], Sep.closeIds ?_ s4.up1⟩
   have hk : Go.Abs.lkp id l = none := lkp_none.2 fun hh => hm (hp.mem_iff.1 hh)
   rw [keys_ins, if_pos hk]
   exact (List.perm_append_comm.trans (List.Perm.refl _)).trans (hp.cons id)
theorem ids_New0 (s : Sep F h L) : cl (Go.Abs.F.name_New E) [.slice none 0 0] h fun r h' => Sep F h' (plIds r [] :: L) := by
 refine cl_of ?_
 simp only [Go.Abs.F.name_New]
 have e1 : makeMapD true none h = some (.map (some h.next), h.new (.map [] 0)) := rfl
 rw [e1, kP_some]
 have s1 := s.newM (D := kdId) (A := idV)
 generalize h.new (.map [] 0) = h1 at s1 ⊢
 generalize h.next = m at s1 ⊢
 have e2 : buildD (.struct [(.map none)] [(0, 1)]) [(0, .map (some m))] = some (.agg #[.map (some m)]) := rfl
 have e3 : newD none (.agg #[.map (some m)]) h1 = some (ptr h1.next 0, h1.new (.cells [.map (some m)] 1 .rw)) := rfl
 rw [e2, kv_some, e3, kP_some]
 have s2 := s1.box [.map (some m)] 1
 have e5 : ∀ h : AHeap, lenD .slice (.slice none 0 0) h = some (i64 ((0 : Nat) : Int)) := fun _ => rfl
 rw [e5, kv_some]
 refine ⟨fun n vs h' => vs = [i64 0] ∧ Sep F h' (plBox h1.next [.map (some m)] 1 :: plGM kdId idV m [] :: L), 0, ⟨rfl, s2⟩, ?_⟩
 rintro n e h2 ⟨he, s3⟩
 simp only [List.cons.injEq, and_true] at he
 simp only [he, bin_lss, kv_some, ifV_bool, decide_eq_true_eq]
 rw [if_neg (by simp)]
 exact Sep.closeIds (by simp [keysL]) s3
end Go.Abs
namespace Go.Abs
open Go
variable {E : FE} {h : AHeap} {fp : List Nat} {v : V}
abbrev zOp : List V := [(.int .i64 0), (.string ⟨#[]⟩), (.string ⟨#[]⟩), (.string ⟨#[]⟩), (.int .i64 0)]
theorem clone_ops {l : List Oq} (s : SlE dOp h fp v l) (hsmall : l.length ≤ 1099511627776) :
 cl (F.slices_Clone_Sapi_Op_api_Op E) [v] h fun r h' => ∃ fp', SlE dOp h' fp' r l ∧ Mod h [] h' fp' := by
 refine cl_of ?_
 obtain ⟨b, hb, hnil⟩ := Sl.isNil s true
 simp only [F.slices_Clone_Sapi_Op_api_Op, hb, kv_some, ifV_bool]
 cases b with
 | true =>
  obtain ⟨h0, rfl⟩ := hnil rfl
  have : l = [] := List.eq_nil_of_length_eq_zero h0
  subst this
  simp only [if_true]
  exact ⟨[], SlE.nil (D := dOp), Mod.refl (by simp)⟩
 | false =>
  simp only [Bool.false_eq_true, if_false, buildSliceD]
  simp only [Nat.zero_mul, Nat.zero_le, List.length_cons, List.length_nil, and_self, and_true, true_and, if_true, aFill, Option.map_some, kP_some, zeros, Nat.mul_zero, List.range_zero, List.map_nil, show (0:Nat) < 5 from by decide]
  have s1 : Sl (h.new (.cells [] 5 .rw)) [h.next] (.slice (some ⟨h.next, 0, none⟩) 0 0) 5 0 [] := ⟨by simp, .inr ⟨h.next, 0, [], rfl, rfl, by simp, by simp, by simp, by simp, by simp⟩⟩
  have s2 : Sl (h.new (.cells [] 5 .rw)) fp v 5 l.length (dOp.flat l) := s.keep (Mod.newBox (fp := []) (by simp))
  obtain ⟨v', h', fp', e1, e2, e3⟩ := Sl.append s1 (bytes := 64) (z := zOp) rfl (by decide) (by decide) (Sl.src s2).1 (fun _ => (Sl.src s2).2) (by rw [dOp.flat_len]; rfl) (dOp.flat_one l) (by omega)
  simp only [zOp] at e1
  rw [e1]
  simp only [kP_some]
  refine ⟨fp', by rw [Nat.zero_add, List.nil_append] at e2; exact e2, by have := e3.next; simp at this; omega, fun x hx _ => ?_, fun x hx => ?_, e3.lt⟩
  · have hne : x ≠ h.next := by omega
    rw [e3.same x (by simp; omega) (by simpa using hne)]
    simp [hne]
  · rcases e3.new x hx with h1 | h1
    · simp at h1; right; omega
    · simp at h1; right; omega
end Go.Abs
namespace Go.Abs
open Go
variable {E : FE} {F : Fr} {h : AHeap} {L : List Pl} {p v : V}
def plSpM (k : Nat) (v : V) (s : SpM) : Pl := plEx fun (S : SpSt) => plAll [plPure (SI k S ∧ KI S ∧ RelS S s), plSpS v S]
def spV (k : Nat) (_ : ByteArray) (v : V) (s : SpM) : Pl := plSpM k v s
def vwV (k : Nat) (n : ByteArray) (v : V) (x : Option SpM) : Pl := match x with | none => plPure (v = nil) | some s => plSpM k v s
theorem Sep.openSpM {k : Nat} {s : SpM} (z : Sep F h (plSpM k v s :: L)) : ∃ S, SI k S ∧ KI S ∧ RelS S s ∧ Sep F h (plSpS v S :: L) := by
 obtain ⟨S, z⟩ := z.ex
 have z1 := z.all
 obtain ⟨e, z2⟩ := Sep.pure (L := plSpS v S :: L) z1
 exact ⟨S, e.1, e.2.1, e.2.2, z2⟩
theorem Sep.closeSpM {k : Nat} {s : SpM} {S : SpSt} (h1 : SI k S) (h2 : KI S) (h3 : RelS S s) (z : Sep F h (plSpS v S :: L)) : Sep F h (plSpM k v s :: L) :=
 Sep.mkEx (A := fun (S : SpSt) => plAll [plPure (SI k S ∧ KI S ∧ RelS S s), plSpS v S]) S (Sep.mkAll (L' := [plPure (SI k S ∧ KI S ∧ RelS S s), plSpS v S]) (Sep.mkPure ⟨h1, h2, h3⟩ z))
theorem clone_SpM {k : Nat} {s : SpM} (z : Sep F h (plSpM k v s :: L)) : cl (Go.Abs.F.space_Space_Clone E) [v] h fun r h' => Sep F h' (plSpM k r s :: plSpM k v s :: L) := by
 obtain ⟨S, h1, h2, h3, z1⟩ := z.openSpM
 obtain ⟨f, q, _⟩ := z1.head
 have q : SpS h f v S := q
 refine cl_then (clone_ok q h1) ?_
 rintro r h' ⟨f', q', m'⟩
 have z2 := z1.alloc (plSpS r S) m' q'
 exact Sep.closeSpM h1 h2 h3 (Sep.closeSpM h1 h2 h3 z2.up1).up1
theorem clone_nil : cl (Go.Abs.F.space_Space_Clone E) [nil] h fun r h' => r = nil ∧ h' = h := by
 refine cl_of ?_
 simp only [Go.Abs.F.space_Space_Clone, nil_eq_nil, kv_some, ifV_bool, if_true]
 exact ⟨trivial, trivial⟩
end Go.Abs
namespace Go.Abs
open Go
variable {E : FE} {F : Fr} {h : AHeap} {L : List Pl} {p v : V}
def kdStr : KD ByteArray where
 kk := .string
 enc := str
 ok := fun k => by simp [keyOkD]
 eq := fun a b => by
  show some (a == b) = _
  by_cases h : a = b
  · simp [h]
  · simp [h]
 closed := fun a => by simp [closedV, closed0]
 bits := fun a => by simp [Instr.sameBits]
theorem Sep.toHole {κ α : Type} [DecidableEq κ] {D : KD κ} {A : κ → V → α → Pl} {m : Nat} {l : List (κ × α)} {k : κ} {w : V} (s : Sep F h (plGM D A m l :: L)) (hk : Go.Abs.lkp k l = none) :
 Sep F h (plGM D (holeP k w A) m l :: L) := by
 obtain ⟨t, clk, q, s1⟩ := s.openM
 have ht : ∀ e ∈ t, e.k ≠ k := fun e he hc => by
  have h1 : k ∉ keysL l := lkp_none.1 hk
  exact h1 ((keys_perm q.perm).mem_iff.1 (by rw [absE_keys]; exact List.mem_map.2 ⟨e, he, hc⟩))
 rw [← hole_map (v := w) ht] at s1
 exact Sep.closeM q s1
theorem Sep.insHole {κ α : Type} [DecidableEq κ] {D : KD κ} {A : κ → V → α → Pl} {m : Nat} {l : List (κ × α)} {k : κ} {w z : V} (x : α) (s : Sep F h (plGM D A m l :: L)) (hk : Go.Abs.lkp k l = none) :
 ∃ h', mapUpdateD (some (D.kk, some z)) (.map (some m)) (D.enc k) w h = some h' ∧ Sep F h' (plGM D (holeP k w A) m (ins k x l) :: L) := by
 have s1 := s.toHole (w := w) hk
 refine Sep.insM (z := z) (Sep.up1 ?_)
 have e : holeP k w A k w x = plPure (w = w) := by simp [holeP]
 rw [e]
 exact Sep.mkPure rfl s1
theorem ins_same {κ α : Type} [DecidableEq κ] {k : κ} {x : α} : ∀ {l : List (κ × α)}, Go.Abs.lkp k l = some x → ins k x l = l
 | [], h => by simp [Go.Abs.lkp] at h
 | (a, u) :: l, h => by
  simp only [Go.Abs.lkp] at h
  by_cases hk : a = k
  · rw [if_pos hk] at h
    cases h
    rw [ins, if_pos hk, hk]
  · rw [if_neg hk] at h
    rw [ins, if_neg hk, ins_same h]
theorem vault_sees {k pv pp ms mv : Nat} {a b c d e f : V} {sp : List (ByteArray × SpM)} {view : List (ByteArray × Option SpM)} (name : ByteArray)
 (s : Sep F h (plBox pv [.map (some ms), a, b, c] 4 :: plBox pp [d, e, f, .map (some mv)] 4 :: plGM kdStr (spV k) ms sp :: plGM kdStr (vwV k) mv view :: L)) :
 cl (Go.Abs.F.vault_Vault_sees E) [ptr pv 0, ptr pp 0, str name] h fun r h' =>
  Sep F h' (plGM kdStr (holeP name r (vwV k)) mv (seesV sp name view).2 :: vwV k name r (seesV sp name view).1 :: plBox pv [.map (some ms), a, b, c] 4 :: plBox pp [d, e, f, .map (some mv)] 4 :: plGM kdStr (spV k) ms sp :: L) := by
 refine cl_of ?_
 have gp := s.up1.get
 have r1 : h.rd pp 3 = some (.map (some mv)) := by rw [rd_of gp 3]; rfl
 simp only [Go.Abs.F.vault_Vault_sees, aNil_ptr, kv_some, fieldAddr_ptr, ld_one, Nat.zero_add, r1]
 cases hk : Go.Abs.lkp name view with
 | some x =>
  obtain ⟨w, h1, s1⟩ := s.up3.lookSome (z := nil) hk true
  have h1 : lookupD (some (.string, (some (.pointer none)))) (.map (some mv)) (str name) true h = some (.tuple #[w, .bool true]) := h1
  rw [h1, kv_some]
  simp only [extract_tuple, List.getElem?_toArray, List.getElem?_cons_zero, List.getElem?_cons_succ, kv_some, ifV_bool, if_true]
  simp only [seesV, hk]
  exact s1.up1
 | none =>
  have h1 := s.up3.lookNone (z := nil) hk true
  have h1 : lookupD (some (.string, (some (.pointer none)))) (.map (some mv)) (str name) true h = some (.tuple #[nil, .bool false]) := h1
  rw [h1, kv_some]
  simp only [extract_tuple, List.getElem?_toArray, List.getElem?_cons_zero, List.getElem?_cons_succ, kv_some, ifV_bool, Bool.false_eq_true, if_false]
  have r2 : h.rd pv 0 = some (.map (some ms)) := by rw [rd_of s.get 0]; rfl
  rw [r2, kv_some]
  simp only [seesV, hk]
  cases hs : Go.Abs.lkp name sp with
  | none =>
   have h2 := s.up2.lookNone (z := nil) hs false
   have h2 : lookupD (some (.string, (some (.pointer none)))) (.map (some ms)) (str name) false h = some nil := h2
   rw [h2, kv_some]
   refine cl_then clone_nil ?_
   rintro r h3 ⟨rfl, rfl⟩
   rw [r1, kv_some]
   obtain ⟨h4, e4, s4⟩ := Sep.insHole (w := nil) (z := nil) (none : Option SpM) s.up3 hk
   have e4 : mapUpdateD (some (.string, (some (.pointer none)))) (.map (some mv)) (str name) nil h3 = some h4 := e4
   rw [e4, kH_some]
   exact (Sep.mkPure (φ := (nil : V) = nil) rfl s4).up1
  | some x =>
   obtain ⟨w, h2, s2⟩ := s.up2.lookSome (z := nil) hs false
   have h2 : lookupD (some (.string, (some (.pointer none)))) (.map (some ms)) (str name) false h = some w := h2
   rw [h2, kv_some]
   refine cl_then (clone_SpM s2) ?_
   intro r h3 s3
   have s4 := Sep.backM (A := spV k) (k := name) (v := w) (x := x) (x' := x) (D := kdStr) s3.dn2 hs
   rw [ins_same hs] at s4
   have r3 : h3.rd pp 3 = some (.map (some mv)) := by rw [rd_of s4.drop.drop.drop.get 3]; rfl
   rw [r3, kv_some]
   obtain ⟨h4, e4, s5⟩ := Sep.insHole (w := r) (z := nil) (some x : Option SpM) s4.up4 hk
   have e4 : mapUpdateD (some (.string, (some (.pointer none)))) (.map (some mv)) (str name) r h3 = some h4 := e4
   rw [e4, kH_some]
   exact s5.perm (List.Perm.cons _ (((List.Perm.swap _ _ _).trans ((List.Perm.swap _ _ _).cons _)).trans (((List.Perm.swap _ _ _).cons _).cons _)))
end Go.Abs
namespace Go.Abs
open Go
variable {E : FE} {F : Fr} {h : AHeap} {L : List Pl} {p v : V}
def plOps (v : V) (l : List Oq) : Pl := ⟨fun h f => SlE dOp h f v l, fun _ _ q => q.lt, fun _ _ _ q hl hs => SlE.same q hl hs⟩
def plStrs (v : V) (l : List ByteArray) : Pl := ⟨fun h f => Sl h f v 1 l.length (l.map str), fun _ _ q => q.lt, fun _ _ _ q hl hs => Sl.same q hl hs⟩
def plPart (k : Nat) (p : V) (x : PartM) : Pl := plEx fun (y : Nat × V × V × Nat) =>
 plAll [plPure (p = ptr y.1 0), plBox y.1 [y.2.1, y.2.2.1, i64 x.now, .map (some y.2.2.2)] 4, plOps y.2.1 x.ops, plStrs y.2.2.1 x.vals, plGM kdStr (vwV k) y.2.2.2 x.view]
def ptV (k : Nat) (_ : IdM) (v : V) (x : PartM) : Pl := plPart k v x
theorem Sep.openPart {k : Nat} {x : PartM} (s : Sep F h (plPart k p x :: L)) : ∃ b a c m, p = ptr b 0 ∧ Sep F h (plBox b [a, c, i64 x.now, .map (some m)] 4 :: plOps a x.ops :: plStrs c x.vals :: plGM kdStr (vwV k) m x.view :: L) := by
 obtain ⟨⟨b, a, c, m⟩, s⟩ := s.ex
 have s1 := s.all
 obtain ⟨e, s2⟩ := Sep.pure (L := plBox b [a, c, i64 x.now, .map (some m)] 4 :: plOps a x.ops :: plStrs c x.vals :: plGM kdStr (vwV k) m x.view :: L) s1
 exact ⟨b, a, c, m, e, s2⟩
theorem Sep.closePart {k b m : Nat} {a c : V} {x : PartM} (s : Sep F h (plBox b [a, c, i64 x.now, .map (some m)] 4 :: plOps a x.ops :: plStrs c x.vals :: plGM kdStr (vwV k) m x.view :: L)) : Sep F h (plPart k (ptr b 0) x :: L) :=
 Sep.mkEx (A := fun (y : Nat × V × V × Nat) => plAll [plPure (ptr b 0 = ptr y.1 0), plBox y.1 [y.2.1, y.2.2.1, i64 x.now, .map (some y.2.2.2)] 4, plOps y.2.1 x.ops, plStrs y.2.2.1 x.vals, plGM kdStr (vwV k) y.2.2.2 x.view]) (b, a, c, m)
  (Sep.mkAll (L' := [plPure (ptr b 0 = ptr b 0), plBox b [a, c, i64 x.now, .map (some m)] 4, plOps a x.ops, plStrs c x.vals, plGM kdStr (vwV k) m x.view]) (Sep.mkPure rfl s))
def plVlt (k : Nat) (p : V) (st : VltM) : Pl := plEx fun (y : Nat × Nat × V × Nat × V) =>
 plAll [plPure (p = ptr y.1 0), plBox y.1 [.map (some y.2.1), y.2.2.1, .map (some y.2.2.2.1), y.2.2.2.2] 4, plGM kdStr (spV k) y.2.1 st.sp, plLk y.2.2.1 st.lk, plGM kdId (ptV k) y.2.2.2.1 st.pt, plIds y.2.2.2.2 st.ov]
theorem Sep.openVlt {k : Nat} {st : VltM} (s : Sep F h (plVlt k p st :: L)) : ∃ b ms a mp c, p = ptr b 0 ∧
 Sep F h (plBox b [.map (some ms), a, .map (some mp), c] 4 :: plGM kdStr (spV k) ms st.sp :: plLk a st.lk :: plGM kdId (ptV k) mp st.pt :: plIds c st.ov :: L) := by
 obtain ⟨⟨b, ms, a, mp, c⟩, s⟩ := s.ex
 have s1 := s.all
 obtain ⟨e, s2⟩ := Sep.pure (L := plBox b [.map (some ms), a, .map (some mp), c] 4 :: plGM kdStr (spV k) ms st.sp :: plLk a st.lk :: plGM kdId (ptV k) mp st.pt :: plIds c st.ov :: L) s1
 exact ⟨b, ms, a, mp, c, e, s2⟩
theorem Sep.closeVlt {k b ms mp : Nat} {a c : V} {st : VltM}
 (s : Sep F h (plBox b [.map (some ms), a, .map (some mp), c] 4 :: plGM kdStr (spV k) ms st.sp :: plLk a st.lk :: plGM kdId (ptV k) mp st.pt :: plIds c st.ov :: L)) : Sep F h (plVlt k (ptr b 0) st :: L) :=
 Sep.mkEx (A := fun (y : Nat × Nat × V × Nat × V) => plAll [plPure (ptr b 0 = ptr y.1 0), plBox y.1 [.map (some y.2.1), y.2.2.1, .map (some y.2.2.2.1), y.2.2.2.2] 4, plGM kdStr (spV k) y.2.1 st.sp, plLk y.2.2.1 st.lk, plGM kdId (ptV k) y.2.2.2.1 st.pt, plIds y.2.2.2.2 st.ov]) (b, ms, a, mp, c)
  (Sep.mkAll (L' := [plPure (ptr b 0 = ptr b 0), plBox b [.map (some ms), a, .map (some mp), c] 4, plGM kdStr (spV k) ms st.sp, plLk a st.lk, plGM kdId (ptV k) mp st.pt, plIds c st.ov]) (Sep.mkPure rfl s))
theorem vault_New (k : Nat) (s : Sep F h L) : cl (Go.Abs.F.vault_New E) [] h fun r h' => Sep F h' (plVlt k r ⟨[], [], [], []⟩ :: L) := by
 refine cl_of ?_
 simp only [Go.Abs.F.vault_New]
 have e1 : ∀ h : AHeap, makeMapD true none h = some (.map (some h.next), h.new (.map [] 0)) := fun _ => rfl
 rw [e1, kP_some]
 have s1 := s.newM (D := kdStr) (A := spV k)
 generalize h.new (.map [] 0) = h1 at s1 ⊢
 generalize h.next = ms at s1 ⊢
 refine cl_then (lock_New s1) ?_
 intro a h2 s2
 rw [e1, kP_some]
 have s3 := s2.newM (D := kdId) (A := ptV k)
 generalize h2.new (.map [] 0) = h3 at s3 ⊢
 generalize h2.next = mp at s3 ⊢
 refine cl_then (ids_New0 s3) ?_
 intro c h4 s4
 have e2 : buildD (.struct [(.map none), (.pointer none), (.map none), (.pointer none)] [(0, 1), (1, 1), (2, 1), (3, 1)]) [(0, .map (some ms)), (1, a), (2, .map (some mp)), (3, c)] = some (.agg #[.map (some ms), a, .map (some mp), c]) := by
  obtain ⟨bc, mc, lc, rfl, _, _⟩ := s4.openIds
  obtain ⟨ba, ma, rfl, _⟩ := s4.drop.drop.openLk
  rfl
 have e3 : newD none (.agg #[.map (some ms), a, .map (some mp), c]) h4 = some (ptr h4.next 0, h4.new (.cells [.map (some ms), a, .map (some mp), c] 4 .rw)) := rfl
 rw [e2, kv_some, e3, kP_some]
 have s5 := s4.box [.map (some ms), a, .map (some mp), c] 4
 exact Sep.closeVlt (st := ⟨[], [], [], []⟩) s5.up1.up2.up3.up4.up4
end Go.Abs
namespace Go.Abs
open Go
variable {E : FE} {F : Fr} {h : AHeap} {L : List Pl} {p v : V} {k : Nat} {st : VltM}
theorem vault_Over (id : IdM) (s : Sep F h (plVlt k p st :: L)) :
 cl (Go.Abs.F.vault_Vault_Over E) [p, id.agg] h fun r h' => r = .bool (decide (id ∈ st.ov)) ∧ Sep F h' (plVlt k p st :: L) := by
 refine cl_of ?_
 obtain ⟨b, ms, a, mp, c, rfl, s0⟩ := s.openVlt
 simp only [Go.Abs.F.vault_Vault_Over, new2, kP_some, ptr_ne_nil, kv_some, gdV_bool, if_true, aNil_ptr, fieldAddr_ptr, ld_one, Nat.zero_add]
 have s1 := s0.box (cId id) 2
 generalize h.new (.cells (cId id) 2 .rw) = h1 at s1 ⊢
 generalize h.next = bi at s1 ⊢
 have r1 : h1.rd b 3 = some c := by rw [rd_of s1.drop.get 3]; rfl
 rw [r1, kv_some, ld2 s1.get, kv_some]
 refine gdC_yes rfl (cl_then (ids_Has id s1.drop.up4) ?_)
 rintro r h2 ⟨rfl, s3⟩
 simp only [pickV_bool, if_true, kv_some]
 exact ⟨trivial, Sep.closeVlt s3.dn4⟩
end Go.Abs
namespace Go.Abs
open Go
variable {E : FE} {F : Fr} {h : AHeap} {L : List Pl} {p v : V} {k : Nat}
theorem Sep.nilView {n : ByteArray} {w : V} {x : Option SpM} (s : Sep F h (vwV k n w x :: L)) (c : Bool) : binD (.ptr true) .neq c w nil h = some (.bool x.isSome) := by
 cases x with
 | none =>
  obtain ⟨e, _⟩ := Sep.pure (φ := w = nil) s
  subst e
  exact nil_ne_nil true c
 | some y =>
  obtain ⟨S, _, _, _, s1⟩ := Sep.openSpM (k := k) (s := y) s
  obtain ⟨f, q, _⟩ := s1.head
  have q : SpS h f w S := q
  obtain ⟨pt, q⟩ := q
  obtain ⟨b, g, rfl, _⟩ := q
  exact ptr_ne_nil true c b 0
end Go.Abs
namespace Go.Abs
open Go
variable {E : FE} {F : Fr} {h : AHeap} {L : List Pl} {p v : V} {k : Nat}
theorem new_SpM (kd most : Int) (hk : kd = 1 ∨ kd = 2 ∨ kd = 3) (s : Sep F h L) :
 cl (Go.Abs.F.space_New E) [i64 kd, i64 most] h fun r h' => Sep F h' (plSpM k r (SpM.new kd most) :: L) := by
 refine cl_then (new_both kd most hk) ?_
 rintro r h' ⟨S, fp, q, m, h1, h2, h3⟩
 exact Sep.closeSpM (h1.mono (Nat.zero_le k)) h2 h3 (s.alloc (plSpS r S) m q)
theorem Sep.moreSpM {k' : Nat} {s : SpM} (z : Sep F h (plSpM k v s :: L)) (hk : k ≤ k') : Sep F h (plSpM k' v s :: L) := by
 obtain ⟨S, h1, h2, h3, z1⟩ := z.openSpM
 exact Sep.closeSpM (h1.mono hk) h2 h3 z1
end Go.Abs
namespace Go.Abs
open Go
variable {E : FE} {F : Fr} {h : AHeap} {L : List Pl} {p v : V} {k : Nat}
theorem do_SpM {E0 : FE} (hM : MonoI E.I) (hE : E.I (E.k 0) = some (cl (Go.Abs.F.queue_Queue_Ack_1 E0))) {s : SpM} (o : Oq) (now : Int) (hz : o.key.size ≤ 30 ∧ o.val.size ≤ 120) (hb : 120 ≤ BB) (hm : 30 ≤ maxLen) (hk : k ≤ 1000) (z : Sep F h (plSpM k v s :: L)) :
 cl (Go.Abs.F.space_Space_Do E) [v, o.agg, i64 now] h fun r h' => r = .tuple #[str (s.act o now).1, i64 (s.act o now).2.1] ∧ Sep F h' (plSpM (k + 1) v (s.act o now).2.2 :: L) := by
 obtain ⟨S, h1, h2, h3, z1⟩ := z.openSpM
 obtain ⟨f, q, kk⟩ := z1.head
 have q : SpS h f v S := q
 refine cl_then (act_ok hM hE q h1 hk o now ⟨by omega, by omega⟩) ?_
 rintro r h' ⟨c, fp', rfl, q', m'⟩
 obtain ⟨a1, a2, a3⟩ := act_sim h3 h1 o now c
 rw [a1, a2]
 exact ⟨rfl, Sep.closeSpM (h1.step o now c ⟨by omega, by omega⟩) (h2.step o now c hz) a3 (kk (plSpS v _) m' q')⟩
end Go.Abs
set_option linter.unusedSectionVars false
namespace Go.Abs
open Go
variable {κ α : Type} [DecidableEq κ] {t td : List (Et κ α)} {clk : Nat} {l : List (κ × α)}
theorem OkE.count (q : OkE t clk l) (hp : t.Perm td) (P : κ × α → Bool) : (td.filter fun e => P (e.k, e.x)).length = (l.filter P).length := by
 rw [← (hp.filter _).length_eq, ← (q.perm.filter P).length_eq, absE, List.filter_map, List.length_map]
 rfl
theorem OkE.sum (q : OkE t clk l) (hp : t.Perm td) (f : κ × α → Nat) : (td.map fun e => f (e.k, e.x)).sum = (l.map f).sum := by
 rw [← (hp.map _).sum_nat, ← (q.perm.map f).sum_nat, absE, List.map_map]
 rfl
end Go.Abs
namespace Go.Abs
open Go
variable {F : Fr} {h : AHeap} {L : List Pl} {k : Nat}
theorem Sep.lookV {mv : Nat} {view : List (ByteArray × Option SpM)} (s : Sep F h (plGM kdStr (vwV k) mv view :: L)) (name : ByteArray) :
 ∃ w, lookupD (some (.string, (some (.pointer none)))) (.map (some mv)) (str name) true h = some (.tuple #[w, .bool (lkp name view).isSome]) ∧
  ∀ x, lkp name view = some x → ∀ c, binD (.ptr true) .neq c w nil h = some (.bool x.isSome) := by
 cases hk : Go.Abs.lkp name view with
 | none =>
  have h1 := s.lookNone (z := nil) hk true
  exact ⟨nil, h1, fun x hx => by cases hx⟩
 | some x =>
  obtain ⟨w, h1, s1⟩ := s.lookSome (z := nil) hk true
  exact ⟨w, h1, fun y hy c => by
   cases hy
   exact Sep.nilView (k := k) (n := name) s1 c⟩
end Go.Abs
namespace Go.Abs
open Go
theorem makesL_snoc (l : List Oq) (o : Oq) : makesL (l ++ [o]) = makesL l + if o.fn = 1 then 1 else 0 := by
 unfold makesL
 rw [List.filter_append, List.length_append]
 by_cases h : o.fn = 1 <;> simp [h]
theorem makesL_take (l : List Oq) (i : Nat) (hx : i < l.length) : makesL (l.take (i + 1)) = makesL (l.take i) + if (l[i]).fn = 1 then 1 else 0 := by
 rw [List.take_add_one, List.getElem?_eq_getElem hx]
 exact makesL_snoc _ _
theorem makesL_le (l : List Oq) : makesL l ≤ l.length := List.length_filter_le _ _
end Go.Abs
namespace Go.Abs
open Go
variable {F : Fr} {h : AHeap} {L : List Pl}
theorem makes_in {a : V} {ops : List Oq} (n0 : Nat) (s : Sep F h (plOps a ops :: L)) (hsz : ops.length ≤ 1000) (h0 : n0 ≤ 1000000) {K : V → AHeap → Prop}
 (hK : ∀ h', Sep F h' (plOps a ops :: L) → K (i64 ((n0 + makesL ops : Nat) : Int)) h') :
 kv (lenD .slice a h) fun v52 =>
∃ (Inv53 : Nat → List V → AHeap → Prop) (n53 : Nat), Inv53 n53 [i64 n0, (.int .i64 0)] h ∧ ∀ (n53 : Nat) (e53 : Nat → V) (h : AHeap), Inv53 n53 [(e53 5), (e53 78)] h →
kv (binD .bad .lss false (e53 78) v52 h) fun v54 =>
ifV v54 (
kv (indexAddrD (.slice 5) a (e53 78)) fun v55 =>
kv (ldD (.agg 5) v55 h) fun v56 =>
kP (newD none (.agg #[(.int .i64 0), (.string ⟨#[]⟩), (.string ⟨#[]⟩), (.string ⟨#[]⟩), (.int .i64 0)]) h) fun v57 h =>
kH (stD (some 5) v57 v56 h) fun _ h =>
kv (fieldAddrD (some 0) v57) fun v58 =>
kv (ldD .one v58 h) fun v59 =>
kv (binD .bad .eql true v59 (.int .i64 1) h) fun v60 =>
ifV v60 (
kv (binD .bad .add true (e53 5) (.int .i64 1) h) fun v61 =>
kv (binD .bad .add true (e53 78) (.int .i64 1) h) fun v62 =>
∃ m, m < n53 ∧ Inv53 m [v61, v62] h) (
kv (binD .bad .add true (e53 78) (.int .i64 1) h) fun v63 =>
∃ m, m < n53 ∧ Inv53 m [(e53 5), v63] h)) (
K (e53 5) h) := by
 obtain ⟨f0, q0, _⟩ := s.head
 have q0 : SlE dOp h f0 a ops := q0
 rw [q0.len, kv_some]
 refine ⟨fun n vs h' => ∃ i : Nat, vs = [i64 ((n0 + makesL (ops.take i) : Nat) : Int), i64 i] ∧ n = ops.length - i ∧ i ≤ ops.length ∧ Sep F h' (plOps a ops :: L), ops.length, ⟨0, by simp [makesL], by omega, by omega, s⟩, ?_⟩
 rintro n e h1 ⟨i, he, rfl, hi, s1⟩
 simp only [List.cons.injEq, and_true] at he
 obtain ⟨e5, e78⟩ := he
 simp only [e5, e78, bin_lss, kv_some, ifV_bool, decide_eq_true_eq]
 rcases Nat.lt_or_ge i ops.length with hx | hx
 case inr =>
  rw [if_neg (show ¬ ((i : Nat) : Int) < (ops.length : Nat) by omega)]
  have hil : i = ops.length := by omega
  subst hil
  rw [List.take_length]
  exact hK _ s1
 rw [if_pos (show ((i : Nat) : Int) < (ops.length : Nat) by omega)]
 obtain ⟨f1, q1, _⟩ := s1.head
 have q1 : SlE dOp h1 f1 a ops := q1
 obtain ⟨c, i1, i2⟩ := q1.ld (List.getElem?_eq_getElem hx)
 have i1 : indexAddrD (.slice 5) _ _ = _ := i1
 have i2 : ldD (.agg 5) _ _ = some (ops[i]).agg := i2
 have hm := makesL_take ops i hx
 have hle := makesL_le (ops.take i)
 rw [List.length_take] at hle
 generalize ops[i] = o at i2 hm
 simp only [i1, kv_some, i2, newO0, kP_some]
 have s2 := s1.box ((⟨0, ⟨#[]⟩, ⟨#[]⟩, ⟨#[]⟩, 0⟩ : Oq).cells) 5
 rw [st5 s2.get, kH_some]
 have s3 := s2.write (cs' := o.cells)
 generalize AHeap.put _ _ _ = h3 at s3 ⊢
 have r0 : h3.rd h1.next 0 = some (i64 o.fn) := by rw [rd_of s3.get 0]; rfl
 simp only [fieldAddr_ptr, kv_some, ld_one, Nat.zero_add, r0, bin_eql, ifV_bool, beq_iff_eq, decide_eq_true_eq]
 by_cases h1f : o.fn = 1
 · rw [if_pos h1f] at hm ⊢
   rw [add_i64 _ 1 (by omega) (by omega), kv_some, add_i64 _ 1 (by omega) (by omega), kv_some]
   exact ⟨ops.length - (i + 1), by omega, i + 1, by rw [hm]; simp; omega, rfl, by omega, s3.drop⟩
 · rw [if_neg h1f] at hm ⊢
   rw [add_i64 _ 1 (by omega) (by omega), kv_some]
   exact ⟨ops.length - (i + 1), by omega, i + 1, by rw [hm]; simp, rfl, by omega, s3.drop⟩
end Go.Abs
namespace Go.Abs
open Go
variable {E : FE} {F : Fr} {h : AHeap} {L : List Pl} {p v : V} {k : Nat}
theorem out_perm {κ α : Type} {A : κ → V → α → Pl} {t : List (Et κ α)} {e : Et κ α} (he : e ∈ t) : ∃ T, (t.map (Et.p A)).Perm (A e.k e.v e.x :: T) := by
 obtain ⟨t1, t2, rfl⟩ := List.append_of_mem he
 refine ⟨t1.map (Et.p A) ++ t2.map (Et.p A), ?_⟩
 rw [List.map_append, List.map_cons]
 exact List.perm_middle
theorem Sep.lookS {ms : Nat} {sp : List (ByteArray × SpM)} (s : Sep F h (plGM kdStr (spV k) ms sp :: L)) (name : ByteArray) :
 ∃ w, lookupD (some (.string, (some (.pointer none)))) (.map (some ms)) (str name) false h = some w ∧ ∀ c, binD (.ptr true) .eql c w nil h = some (.bool (lkp name sp).isNone) := by
 cases hk : Go.Abs.lkp name sp with
 | none =>
  have h1 := s.lookNone (z := nil) hk false
  exact ⟨nil, h1, fun c => nil_eq_nil true c⟩
 | some x =>
  obtain ⟨w, h1, s1⟩ := s.lookSome (z := nil) hk false
  refine ⟨w, h1, fun c => ?_⟩
  obtain ⟨S, _, _, _, s2⟩ := Sep.openSpM (k := k) (s := x) s1
  obtain ⟨f, q, _⟩ := s2.head
  have q : SpS h f w S := q
  obtain ⟨pt, q⟩ := q
  obtain ⟨b, g, rfl, _⟩ := q
  exact ptr_eq_nil true c b 0
theorem sum_le8 {α : Type} (f : α → Nat) : ∀ (l : List α), (∀ e ∈ l, f e ≤ 8) → (l.map f).sum ≤ 8 * l.length
 | [], _ => by simp
 | a :: l, h => by
  have h1 := sum_le8 f l fun e he => h e (by simp [he])
  have h2 := h a (by simp)
  simp only [List.map_cons, List.sum_cons, List.length_cons]
  omega
theorem count3_in {pv ms mp : Nat} {a c : V} {pt : List (IdM × PartM)} (n0 : Nat) (s : Sep F h (plGM kdId (ptV k) mp pt :: plBox pv [.map (some ms), a, .map (some mp), c] 4 :: L)) (hn0 : n0 ≤ 500000)
 (hp : ∀ e ∈ pt, e.2.ops.length ≤ 8) (hl : pt.length ≤ 1000) {K : V → AHeap → Prop}
 (hK : ∀ h', Sep F h' (plGM kdId (ptV k) mp pt :: plBox pv [.map (some ms), a, .map (some mp), c] 4 :: L) → K (i64 ((n0 + (pt.map fun e => makesL e.2.ops).sum : Nat) : Int)) h') :
 kv (h.rd pv 2) fun v42 =>
kP (rangeD .map v42 h) fun v43 h =>
∃ (Inv44 : Nat → List V → AHeap → Prop) (n44 : Nat), Inv44 n44 [i64 n0] h ∧ ∀ (n44 : Nat) (e44 : Nat → V) (h : AHeap), Inv44 n44 [(e44 5)] h →
aNext v43 false h fun v45 h =>
kv (aExtract v45 0) fun v46 =>
ifV v46 (
kV (aEntry v43 h) h fun v47 h =>
kv (aExtract v47 1) fun v48 =>
kv (aNil v48) fun v49 =>
kv (fieldAddrD (some 0) v49) fun v50 =>
kv (ldD .one v50 h) fun v51 =>
kv (lenD .slice v51 h) fun v52 =>
∃ (Inv53 : Nat → List V → AHeap → Prop) (n53 : Nat), Inv53 n53 [(e44 5), (.int .i64 0)] h ∧ ∀ (n53 : Nat) (e53 : Nat → V) (h : AHeap), Inv53 n53 [(e53 5), (e53 78)] h →
kv (binD .bad .lss false (e53 78) v52 h) fun v54 =>
ifV v54 (
kv (indexAddrD (.slice 5) v51 (e53 78)) fun v55 =>
kv (ldD (.agg 5) v55 h) fun v56 =>
kP (newD none (.agg #[(.int .i64 0), (.string ⟨#[]⟩), (.string ⟨#[]⟩), (.string ⟨#[]⟩), (.int .i64 0)]) h) fun v57 h =>
kH (stD (some 5) v57 v56 h) fun _ h =>
kv (fieldAddrD (some 0) v57) fun v58 =>
kv (ldD .one v58 h) fun v59 =>
kv (binD .bad .eql true v59 (.int .i64 1) h) fun v60 =>
ifV v60 (
kv (binD .bad .add true (e53 5) (.int .i64 1) h) fun v61 =>
kv (binD .bad .add true (e53 78) (.int .i64 1) h) fun v62 =>
∃ m, m < n53 ∧ Inv53 m [v61, v62] h) (
kv (binD .bad .add true (e53 78) (.int .i64 1) h) fun v63 =>
∃ m, m < n53 ∧ Inv53 m [(e53 5), v63] h)) (
∃ m, m < n44 ∧ Inv44 m [(e53 5)] h)) (
K (e44 5) h) := by
 have r2 : h.rd pv 2 = some (.map (some mp)) := by rw [rd_of s.up1.get 2]; rfl
 rw [r2, kv_some]
 obtain ⟨t, clk, q, s2⟩ := s.openM
 have htl : t.length = pt.length := by have := q.perm.length_eq; simpa [absE] using this
 have hx8 : ∀ e ∈ t, makesL e.x.ops ≤ 8 ∧ e.x.ops.length ≤ 8 := fun e he => by
  have := hp (e.k, e.x) (q.perm.mem_iff.1 (List.mem_map.2 ⟨e, he, rfl⟩))
  have h2 := makesL_le e.x.ops
  exact ⟨Nat.le_trans h2 this, this⟩
 refine Sep.range s2 (fun it h2 s3 => ?_)
 refine ⟨fun n vs h' => ∃ td seen, vs = [i64 ((n0 + (td.map fun e => makesL e.x.ops).sum : Nat) : Int)] ∧ n = t.length - td.length ∧ SeenT t td seen ∧
  Sep F h' (plIter it mp clk seen :: plMap mp (t.map (Et.m kdId)) clk :: (t.map (Et.p (ptV k)) ++ plBox pv [.map (some ms), a, .map (some mp), c] 4 :: L)),
  t.length, ⟨[], #[], by simp, rfl, SeenT.nil t, s3⟩, ?_⟩
 rintro n e0 h3 ⟨td, seen, he0, rfl, hs, s4⟩
 simp only [List.cons.injEq, and_true] at he0
 simp only [he0]
 have hsum := sum_le8 (fun e : Et IdM PartM => makesL e.x.ops) td fun e he => (hx8 e (hs.sub e he)).1
 refine Sep.nextT s4 q.lt q.bn hs (fun e he hne h5 s5 hs5 hent hlen => ?_) (fun hperm => ?_)
 · simp only [extract_tuple, List.getElem?_toArray, List.getElem?_cons_zero, List.getElem?_cons_succ, kv_some, ifV_bool, if_true]
   rw [hent, kV_some]
   simp only [extract_tuple, List.getElem?_toArray, List.getElem?_cons_zero, List.getElem?_cons_succ, kv_some]
   obtain ⟨T, hT⟩ := out_perm (A := ptV k) he
   have s6 : Sep F h5 (plIter it mp clk (seen.push e.b) :: plMap mp (t.map (Et.m kdId)) clk :: ptV k e.k e.v e.x :: (T ++ plBox pv [.map (some ms), a, .map (some mp), c] 4 :: L)) := s5.perm (((hT.append_right _).cons _).cons _)
   obtain ⟨b, ao, co, mo, ev, s7⟩ := Sep.openPart (k := k) (p := e.v) (x := e.x) s6.up2
   rw [ev]
   have r0 : h5.rd b 0 = some ao := by rw [rd_of s7.get 0]; rfl
   simp only [aNil_ptr, kv_some, fieldAddr_ptr, ld_one, Nat.zero_add, r0]
   refine makes_in (K := fun v h => ∃ m, m < t.length - td.length ∧ ∃ td seen, [v] = [i64 ((n0 + (td.map fun e => makesL e.x.ops).sum : Nat) : Int)] ∧ m = t.length - td.length ∧ SeenT t td seen ∧
    Sep F h (plIter it mp clk seen :: plMap mp (t.map (Et.m kdId)) clk :: (t.map (Et.p (ptV k)) ++ plBox pv [.map (some ms), a, .map (some mp), c] 4 :: L)))
    (n0 + (td.map fun e => makesL e.x.ops).sum) s7.up1 (by have := (hx8 e he).2; omega) (by omega) fun h6 s8 => ?_
   refine ⟨t.length - (td.length + 1), by omega, td ++ [e], _, ?_, by simp, hs5, ?_⟩
   · simp only [List.map_append, List.map_cons, List.map_nil, List.sum_append, List.sum_cons, List.sum_nil, Nat.add_zero, Nat.add_assoc]
   · have s9 := (Sep.closePart (k := k) (x := e.x) s8.up1)
     rw [← ev] at s9
     have s10 : Sep F h6 (plIter it mp clk (seen.push e.b) :: plMap mp (t.map (Et.m kdId)) clk :: ptV k e.k e.v e.x :: (T ++ plBox pv [.map (some ms), a, .map (some mp), c] 4 :: L)) := s9.dn2
     exact s10.perm (((hT.symm.append_right _).cons _).cons _)
 · simp only [extract_tuple, List.getElem?_toArray, List.getElem?_cons_zero, List.getElem?_cons_succ, kv_some, ifV_bool, Bool.false_eq_true, if_false]
   rw [OkE.sum q hperm fun e => makesL e.2.ops]
   exact hK _ (Sep.closeM q s4.drop)
end Go.Abs
namespace Go.Abs
open Go
variable {E : FE} {F : Fr} {h : AHeap} {L : List Pl} {p v : V} {k : Nat}
theorem vault_count {pv pp ms mp mv : Nat} {a c d e f : V} {sp : List (ByteArray × SpM)} {view : List (ByteArray × Option SpM)} {pt : List (IdM × PartM)}
 (s : Sep F h (plGM kdStr (spV k) ms sp :: plGM kdStr (vwV k) mv view :: plGM kdId (ptV k) mp pt :: plBox pv [.map (some ms), a, .map (some mp), c] 4 :: plBox pp [d, e, f, .map (some mv)] 4 :: L))
 (h1 : sp.length ≤ 100000) (h2 : view.length ≤ 100000) (h3 : pt.length ≤ 1000) (h4 : ∀ e ∈ pt, e.2.ops.length ≤ 8) :
 cl (Go.Abs.F.vault_Vault_count E) [ptr pv 0, ptr pp 0] h fun r h' => r = i64 ((countV sp pt view : Nat) : Int) ∧
  Sep F h' (plGM kdStr (spV k) ms sp :: plGM kdStr (vwV k) mv view :: plGM kdId (ptV k) mp pt :: plBox pv [.map (some ms), a, .map (some mp), c] 4 :: plBox pp [d, e, f, .map (some mv)] 4 :: L) := by
 refine cl_of ?_
 have r0 : h.rd pv 0 = some (.map (some ms)) := by rw [rd_of s.up3.get 0]; rfl
 simp only [Go.Abs.F.vault_Vault_count, aNil_ptr, kv_some, fieldAddr_ptr, ld_one, Nat.zero_add, r0]
 obtain ⟨t, clk, q, s2⟩ := s.openM
 have htl : t.length = sp.length := by have := q.perm.length_eq; simpa [absE] using this
 refine Sep.range s2 (fun it h2 s3 => ?_)
 let P1 : ByteArray × SpM → Bool := fun e => match lkp e.1 view with | none => true | some x => x.isSome
 refine ⟨fun n vs h' => ∃ td seen, vs = [i64 (((td.filter fun e => P1 (e.k, e.x)).length : Nat) : Int)] ∧ n = t.length - td.length ∧ SeenT t td seen ∧
  Sep F h' (plIter it ms clk seen :: plMap ms (t.map (Et.m kdStr)) clk :: (t.map (Et.p (spV k)) ++ plGM kdStr (vwV k) mv view :: plGM kdId (ptV k) mp pt :: plBox pv [.map (some ms), a, .map (some mp), c] 4 :: plBox pp [d, e, f, .map (some mv)] 4 :: L)),
  t.length, ⟨[], #[], by simp, rfl, SeenT.nil t, s3⟩, ?_⟩
 rintro n e0 h3 ⟨td, seen, he0, rfl, hs, s4⟩
 simp only [List.cons.injEq, and_true] at he0
 simp only [he0]
 have hfl := List.length_filter_le (fun e : Et ByteArray SpM => P1 (e.k, e.x)) td
 refine Sep.nextT s4 q.lt q.bn hs (fun x hx hne h5 s5 hs5 hent hlen => ?_) (fun hperm => ?_)
 · simp only [extract_tuple, List.getElem?_toArray, List.getElem?_cons_zero, List.getElem?_cons_succ, kv_some, ifV_bool, if_true]
   rw [hent, kV_some]
   simp only [extract_tuple, List.getElem?_toArray, List.getElem?_cons_zero, List.getElem?_cons_succ, kv_some, aNil_ptr, fieldAddr_ptr, ld_one, Nat.zero_add]
   have r3 : h5.rd pp 3 = some (.map (some mv)) := by rw [rd_of s5.drop.drop.dropL.up3.get 3]; rfl
   rw [r3, kv_some]
   obtain ⟨w, w1, w2⟩ := s5.drop.drop.dropL.lookV x.k
   have ek : kdStr.enc x.k = str x.k := rfl
   rw [ek, w1, kv_some]
   simp only [extract_tuple, List.getElem?_toArray, List.getElem?_cons_zero, List.getElem?_cons_succ, kv_some, not_bool, gdV_bool]
   have hp1 : P1 (x.k, x.x) = match lkp x.k view with | none => true | some x => x.isSome := rfl
   have fin : ∀ b : Bool, P1 (x.k, x.x) = b → (ifV (.bool b) (
    kv (binD .bad .add true (i64 (((td.filter fun e => P1 (e.k, e.x)).length : Nat) : Int)) (.int .i64 1) h5) fun v19 =>
    ∃ m, m < t.length - td.length ∧ ∃ td seen, [v19] = [i64 (((td.filter fun e => P1 (e.k, e.x)).length : Nat) : Int)] ∧ m = t.length - td.length ∧ SeenT t td seen ∧
   Sep F h5 (plIter it ms clk seen :: plMap ms (t.map (Et.m kdStr)) clk :: (t.map (Et.p (spV k)) ++ plGM kdStr (vwV k) mv view :: plGM kdId (ptV k) mp pt :: plBox pv [.map (some ms), a, .map (some mp), c] 4 :: plBox pp [d, e, f, .map (some mv)] 4 :: L))) (
    ∃ m, m < t.length - td.length ∧ ∃ td' seen, [i64 (((td.filter fun e => P1 (e.k, e.x)).length : Nat) : Int)] = [i64 (((td'.filter fun e => P1 (e.k, e.x)).length : Nat) : Int)] ∧ m = t.length - td'.length ∧ SeenT t td' seen ∧
   Sep F h5 (plIter it ms clk seen :: plMap ms (t.map (Et.m kdStr)) clk :: (t.map (Et.p (spV k)) ++ plGM kdStr (vwV k) mv view :: plGM kdId (ptV k) mp pt :: plBox pv [.map (some ms), a, .map (some mp), c] 4 :: plBox pp [d, e, f, .map (some mv)] 4 :: L)))) := by
    intro b hb
    cases b with
    | true =>
     simp only [ifV_bool, if_true]
     rw [add_i64 _ 1 (by omega) (by omega), kv_some]
     refine ⟨t.length - (td.length + 1), by omega, td ++ [x], _, ?_, by simp, hs5, s5⟩
     rw [List.filter_append, List.filter_cons_of_pos (by exact hb), List.filter_nil, List.length_append]
     rfl
    | false =>
     simp only [ifV_bool, Bool.false_eq_true, if_false]
     refine ⟨t.length - (td.length + 1), by omega, td ++ [x], _, ?_, by simp, hs5, s5⟩
     rw [List.filter_append, List.filter_cons_of_neg (by simp [hb]), List.filter_nil, List.append_nil]
   cases hk : Go.Abs.lkp x.k view with
   | none =>
    simp only [Option.isSome_none, Bool.not_false, Bool.true_eq_false, if_false, kv_some, gdV_bool, pickV_bool, if_true]
    exact fin true (by rw [hp1, hk])
   | some y =>
    simp only [Option.isSome_some, Bool.not_true, if_true, kv_some, w2 y hk true, pickV_bool, Bool.false_eq_true, if_false]
    exact fin y.isSome (by rw [hp1, hk])
 simp only [extract_tuple, List.getElem?_toArray, List.getElem?_cons_zero, List.getElem?_cons_succ, kv_some, ifV_bool, Bool.false_eq_true, if_false, aNil_ptr, fieldAddr_ptr, ld_one, Nat.zero_add]
 have hc1 : (td.filter fun e => P1 (e.k, e.x)).length = (sp.filter P1).length := OkE.count q hperm P1
 rw [hc1] at hfl ⊢
 have htd : td.length = t.length := hperm.length_eq.symm
 have s6 := Sep.closeM q s4.drop
 clear s4 s3 s2 s
 have r3 : h3.rd pp 3 = some (.map (some mv)) := by rw [rd_of s6.up4.get 3]; rfl
 rw [r3, kv_some]
 obtain ⟨t2, clk2, q2, s7⟩ := s6.up1.openM
 have htl2 : t2.length = view.length := by have := q2.perm.length_eq; simpa [absE] using this
 generalize hn1 : (sp.filter P1).length = n1 at hfl ⊢
 refine Sep.range s7 (fun it2 h6 s8 => ?_)
 let P2 : ByteArray × Option SpM → Bool := fun e => e.2.isSome && (lkp e.1 sp).isNone
 refine ⟨fun n vs h' => ∃ td seen, vs = [i64 ((n1 + (td.filter fun e => P2 (e.k, e.x)).length : Nat) : Int)] ∧ n = t2.length - td.length ∧ SeenT t2 td seen ∧
  Sep F h' (plIter it2 mv clk2 seen :: plMap mv (t2.map (Et.m kdStr)) clk2 :: (t2.map (Et.p (vwV k)) ++ plGM kdStr (spV k) ms sp :: plGM kdId (ptV k) mp pt :: plBox pv [.map (some ms), a, .map (some mp), c] 4 :: plBox pp [d, e, f, .map (some mv)] 4 :: L)),
  t2.length, ⟨[], #[], by simp, rfl, SeenT.nil t2, s8⟩, ?_⟩
 rintro n e0 h7 ⟨td2, seen2, he0, rfl, hs2, s9⟩
 simp only [List.cons.injEq, and_true] at he0
 simp only [he0]
 have hfl2 := List.length_filter_le (fun e : Et ByteArray (Option SpM) => P2 (e.k, e.x)) td2
 refine Sep.nextT s9 q2.lt q2.bn hs2 (fun x hx hne h8 s10 hs5 hent hlen => ?_) (fun hperm2 => ?_)
 · simp only [extract_tuple, List.getElem?_toArray, List.getElem?_cons_zero, List.getElem?_cons_succ, kv_some, ifV_bool, if_true]
   rw [hent, kV_some]
   simp only [extract_tuple, List.getElem?_toArray, List.getElem?_cons_zero, List.getElem?_cons_succ, kv_some]
   obtain ⟨T, hT⟩ := out_perm (A := vwV k) hx
   have s11 : Sep F h8 (vwV k x.k x.v x.x :: (T ++ plGM kdStr (spV k) ms sp :: plGM kdId (ptV k) mp pt :: plBox pv [.map (some ms), a, .map (some mp), c] 4 :: plBox pp [d, e, f, .map (some mv)] 4 :: L)) := s10.drop.drop.perm (hT.append_right _)
   rw [Sep.nilView s11 true, kv_some]
   have fin : ∀ b : Bool, P2 (x.k, x.x) = b → (ifV (.bool b) (
    kv (binD .bad .add true (i64 ((n1 + (td2.filter fun e => P2 (e.k, e.x)).length : Nat) : Int)) (.int .i64 1) h8) fun v19 =>
    ∃ m, m < t2.length - td2.length ∧ ∃ td seen, [v19] = [i64 ((n1 + (td.filter fun e => P2 (e.k, e.x)).length : Nat) : Int)] ∧ m = t2.length - td.length ∧ SeenT t2 td seen ∧
   Sep F h8 (plIter it2 mv clk2 seen :: plMap mv (t2.map (Et.m kdStr)) clk2 :: (t2.map (Et.p (vwV k)) ++ plGM kdStr (spV k) ms sp :: plGM kdId (ptV k) mp pt :: plBox pv [.map (some ms), a, .map (some mp), c] 4 :: plBox pp [d, e, f, .map (some mv)] 4 :: L))) (
    ∃ m, m < t2.length - td2.length ∧ ∃ td seen, [i64 ((n1 + (td2.filter fun e => P2 (e.k, e.x)).length : Nat) : Int)] = [i64 ((n1 + (td.filter fun e => P2 (e.k, e.x)).length : Nat) : Int)] ∧ m = t2.length - td.length ∧ SeenT t2 td seen ∧
   Sep F h8 (plIter it2 mv clk2 seen :: plMap mv (t2.map (Et.m kdStr)) clk2 :: (t2.map (Et.p (vwV k)) ++ plGM kdStr (spV k) ms sp :: plGM kdId (ptV k) mp pt :: plBox pv [.map (some ms), a, .map (some mp), c] 4 :: plBox pp [d, e, f, .map (some mv)] 4 :: L)))) := by
    intro b hb
    cases b with
    | true =>
     simp only [ifV_bool, if_true]
     rw [add_i64 _ 1 (by omega) (by omega), kv_some]
     refine ⟨t2.length - (td2.length + 1), by omega, td2 ++ [x], _, ?_, by simp, hs5, s10⟩
     rw [List.filter_append, List.filter_cons_of_pos (by exact hb), List.filter_nil, List.length_append]
     rfl
    | false =>
     simp only [ifV_bool, Bool.false_eq_true, if_false]
     refine ⟨t2.length - (td2.length + 1), by omega, td2 ++ [x], _, ?_, by simp, hs5, s10⟩
     rw [List.filter_append, List.filter_cons_of_neg (by simp [hb]), List.filter_nil, List.append_nil]
   have r5 : h8.rd pv 0 = some (.map (some ms)) := by rw [rd_of s11.drop.dropL.up2.get 0]; rfl
   obtain ⟨w, w1, w2⟩ := s11.drop.dropL.lookS x.k
   have ek : kdStr.enc x.k = str x.k := rfl
   rw [ek]
   cases hxx : x.x with
   | none =>
    simp only [Option.isSome_none, gdV_bool, Bool.false_eq_true, if_false, kv_some, gdV_gone, pickV_bool]
    exact fin false (by simp [P2, hxx])
   | some y =>
    simp only [Option.isSome_some, gdV_bool, if_true, kv_some, aNil_ptr, fieldAddr_ptr, ld_one, Nat.zero_add, r5, w1, w2 true, pickV_bool]
    exact fin _ (by simp [P2, hxx])
 simp only [extract_tuple, List.getElem?_toArray, List.getElem?_cons_zero, List.getElem?_cons_succ, kv_some, ifV_bool, Bool.false_eq_true, if_false]
 have hc2 : (td2.filter fun e => P2 (e.k, e.x)).length = (view.filter P2).length := OkE.count q2 hperm2 P2
 rw [hc2] at hfl2 ⊢
 have htd2 : td2.length = t2.length := hperm2.length_eq.symm
 have s12 := Sep.closeM q2 s9.drop
 refine count3_in (K := fun r h' => r = i64 ((countV sp pt view : Nat) : Int) ∧
  Sep F h' (plGM kdStr (spV k) ms sp :: plGM kdStr (vwV k) mv view :: plGM kdId (ptV k) mp pt :: plBox pv [.map (some ms), a, .map (some mp), c] 4 :: plBox pp [d, e, f, .map (some mv)] 4 :: L)) (n1 + (view.filter P2).length) (s12.up3.up3) (by omega) h4 (by assumption) fun h9 s13 => ?_
 refine ⟨?_, ?_⟩
 · rw [← hn1]; rfl
 · exact (s13.dn3.dn3).up1
end Go.Abs
namespace Go.Abs
open Go
section
variable {F : Fr} {h : AHeap} {A B C D X Y Z W : Pl} {L : List Pl}
theorem Sep.up5 (s : Sep F h (A :: B :: C :: D :: X :: Y :: L)) : Sep F h (Y :: A :: B :: C :: D :: X :: L) := s.perm (List.perm_middle (l₁ := [A, B, C, D, X]) (l₂ := L) (a := Y))
theorem Sep.up6 (s : Sep F h (A :: B :: C :: D :: X :: Y :: Z :: L)) : Sep F h (Z :: A :: B :: C :: D :: X :: Y :: L) := s.perm (List.perm_middle (l₁ := [A, B, C, D, X, Y]) (l₂ := L) (a := Z))
theorem Sep.dn5 (s : Sep F h (Y :: A :: B :: C :: D :: X :: L)) : Sep F h (A :: B :: C :: D :: X :: Y :: L) := s.perm (List.perm_middle (l₁ := [A, B, C, D, X]) (l₂ := L) (a := Y)).symm
end
section
variable {κ α : Type} [DecidableEq κ] {D : KD κ} {A A' : κ → V → α → Pl} {F : Fr} {h : AHeap} {m : Nat} {l : List (κ × α)}
theorem Sep.monoL (hA : ∀ (F : Fr) (h : AHeap) (L : List Pl) (k : κ) (v : V) (x : α), Sep F h (A k v x :: L) → Sep F h (A' k v x :: L)) : ∀ {t : List (Et κ α)} {L : List Pl}, Sep F h (t.map (Et.p A) ++ L) → Sep F h (t.map (Et.p A') ++ L)
 | [], L, s => s
 | e :: t, L, s => by
  have s1 : Sep F h (A e.k e.v e.x :: (t.map (Et.p A) ++ L)) := s
  have s2 := hA _ _ _ _ _ _ s1
  have s3 : Sep F h (t.map (Et.p A) ++ A' e.k e.v e.x :: L) := s2.perm List.perm_middle.symm
  have s4 := Sep.monoL hA s3
  exact s4.perm List.perm_middle
theorem Sep.monoM (hA : ∀ (F : Fr) (h : AHeap) (L : List Pl) (k : κ) (v : V) (x : α), Sep F h (A k v x :: L) → Sep F h (A' k v x :: L)) {L : List Pl} (s : Sep F h (plGM D A m l :: L)) : Sep F h (plGM D A' m l :: L) := by
 obtain ⟨t, clk, q, s1⟩ := s.openM
 have s2 := Sep.monoL hA (s1.perm List.perm_middle.symm)
 exact Sep.closeM q (s2.perm List.perm_middle)
theorem ins_len (k : κ) (v : α) : ∀ l : List (κ × α), (ins k v l).length ≤ l.length + 1
 | [] => by simp [ins]
 | (a, u) :: l => by
  have := ins_len k v l
  simp only [ins]
  split <;> simp
  omega
theorem rmv_len (k : κ) : ∀ l : List (κ × α), (rmv k l).length ≤ l.length
 | [] => by simp [rmv]
 | (a, u) :: l => by
  have := rmv_len k l
  simp only [rmv]
  split <;> simp
  omega
end
variable {F : Fr} {h : AHeap} {L : List Pl} {k k' : Nat}
theorem mono_sp (hk : k ≤ k') : ∀ (F : Fr) (h : AHeap) (L : List Pl) (n : ByteArray) (v : V) (x : SpM), Sep F h (spV k n v x :: L) → Sep F h (spV k' n v x :: L) := fun _ _ _ _ _ _ s => Sep.moreSpM s hk
theorem mono_vw (hk : k ≤ k') : ∀ (F : Fr) (h : AHeap) (L : List Pl) (n : ByteArray) (v : V) (x : Option SpM), Sep F h (vwV k n v x :: L) → Sep F h (vwV k' n v x :: L) := fun _ _ _ _ _ x s => by
 cases x with
 | none => exact s
 | some y => exact Sep.moreSpM s hk
theorem mono_hole (hk : k ≤ k') (n0 : ByteArray) (v0 : V) : ∀ (F : Fr) (h : AHeap) (L : List Pl) (n : ByteArray) (v : V) (x : Option SpM), Sep F h (holeP n0 v0 (vwV k) n v x :: L) → Sep F h (holeP n0 v0 (vwV k') n v x :: L) := fun F h L n v x s => by
 by_cases e : n = n0
 · simp only [holeP, if_pos e] at s ⊢; exact s
 · simp only [holeP, if_neg e] at s ⊢; exact mono_vw hk _ _ _ _ _ _ s
theorem mono_part (hk : k ≤ k') {p : V} {x : PartM} (s : Sep F h (plPart k p x :: L)) : Sep F h (plPart k' p x :: L) := by
 obtain ⟨b, a, c, m, rfl, s1⟩ := s.openPart
 exact Sep.closePart (Sep.monoM (mono_vw hk) s1.up3).dn3
theorem mono_pt (hk : k ≤ k') : ∀ (F : Fr) (h : AHeap) (L : List Pl) (n : IdM) (v : V) (x : PartM), Sep F h (ptV k n v x :: L) → Sep F h (ptV k' n v x :: L) := fun _ _ _ _ _ _ s => mono_part hk s
theorem Sep.eqView {n : ByteArray} {w : V} {x : Option SpM} (s : Sep F h (vwV k n w x :: L)) (c : Bool) : binD (.ptr true) .eql c w nil h = some (.bool x.isNone) := by
 cases x with
 | none =>
  obtain ⟨e, _⟩ := Sep.pure (φ := w = nil) s
  subst e
  exact nil_eq_nil true c
 | some y =>
  obtain ⟨S, _, _, _, s1⟩ := Sep.openSpM (k := k) (s := y) s
  obtain ⟨f, q, _⟩ := s1.head
  have q : SpS h f w S := q
  obtain ⟨pt, q⟩ := q
  obtain ⟨b, g, rfl, _⟩ := q
  exact ptr_eq_nil true c b 0
theorem sees_lkp (sp : List (ByteArray × SpM)) (n : ByteArray) (view : List (ByteArray × Option SpM)) : lkp n (seesV sp n view).2 = some (seesV sp n view).1 := by
 unfold seesV
 cases hk : Go.Abs.lkp n view with
 | none => simp
 | some x => simpa using hk
theorem sees_len (sp : List (ByteArray × SpM)) (n : ByteArray) (view : List (ByteArray × Option SpM)) : (seesV sp n view).2.length ≤ view.length + 1 := by
 unfold seesV
 cases hk : Go.Abs.lkp n view with
 | none => exact ins_len _ _ _
 | some x => simp
def mostO (s : ByteArray) : Int := match s.data.toList with | c :: _ => (c.toNat : Int) - 48 | [] => 1
structure MayF (o : Oq) : Prop where
 fn : 1 ≤ o.fn ∧ o.fn ≤ 12
 sp : 1 ≤ o.space.size ∧ o.space.size ≤ 20
 key : o.key.size ≤ 20
 val : o.val.size ≤ 100
 n : 0 ≤ o.n ∧ o.n ≤ 1099511627776
 make : o.fn = 1 → (1 ≤ o.n ∧ o.n ≤ 3) ∧ (digitK o.key = true ∨ o.key.size = 0)
theorem mayF {o : Oq} (h : mayO o = true) : MayF o := by
 simp only [mayO, makesO, Bool.and_eq_true, Bool.or_eq_true, decide_eq_true_eq] at h
 obtain ⟨⟨⟨⟨⟨⟨⟨⟨⟨⟨⟨⟨a, b⟩, c⟩, d⟩, _⟩, e⟩, f⟩, g⟩, i⟩, _⟩, _⟩, _⟩, j⟩ := h
 refine ⟨⟨a, b⟩, ⟨c, d⟩, e, f, ⟨g, i⟩, fun h1 => ?_⟩
 rcases j with j | ⟨⟨j1, j2⟩, j3⟩
 · exact absurd h1 j
 · exact ⟨⟨j1, j2⟩, j3.imp id fun x => x.1⟩
end Go.Abs
namespace Go.Abs
open Go
theorem nodup_sub_len {α : Type} [DecidableEq α] : ∀ {l m : List α}, l.Nodup → (∀ x ∈ l, x ∈ m) → l.length ≤ m.length
 | [], m, _, _ => by simp
 | a :: l, m, hn, hs => by
  obtain ⟨h1, h2⟩ := List.nodup_cons.1 hn
  have ha : a ∈ m := hs a (by simp)
  have hl : l.length ≤ (m.erase a).length := nodup_sub_len h2 fun x hx => by
   have hne : x ≠ a := fun e => h1 (e ▸ hx)
   exact (List.mem_erase_of_ne hne).2 (hs x (by simp [hx]))
  rw [List.length_erase_of_mem ha] at hl
  have := List.length_pos_of_mem ha
  simp only [List.length_cons]
  omega
theorem blocked_mem {id : IdM} {lk : List (KeyM × IdM)} {ks ks' : List KeyM} (h : ∀ x, x ∈ ks ↔ x ∈ ks') : blocked id ks lk = blocked id ks' lk := by
 unfold blocked
 congr 1
 funext e
 congr 1
 rw [Bool.eq_iff_iff, List.any_eq_true, List.any_eq_true]
 exact ⟨fun ⟨k, a, b⟩ => ⟨k, (h k).1 a, b⟩, fun ⟨k, a, b⟩ => ⟨k, (h k).2 a, b⟩⟩
theorem takeL_lkp (id : IdM) : ∀ (ks : List KeyM) (lk : List (KeyM × IdM)) (k : KeyM), lkp k (takeL id ks lk) = if k ∈ ks then some id else lkp k lk
 | [], lk, k => by simp [takeL]
 | a :: ks, lk, k => by
  have e : takeL id (a :: ks) lk = takeL id ks (ins a id lk) := rfl
  rw [e, takeL_lkp id ks, lkp_ins]
  by_cases h1 : k ∈ ks
  · simp [h1]
  · by_cases h2 : a = k
    · simp [h2]
    · have h3 : ¬ k = a := fun e => h2 e.symm
      simp [h1, h2, h3]
theorem takeL_nodup (id : IdM) : ∀ (ks : List KeyM) {lk : List (KeyM × IdM)}, (keysL lk).Nodup → (keysL (takeL id ks lk)).Nodup
 | [], lk, h => h
 | a :: ks, lk, h => takeL_nodup id ks (nodup_ins h)
theorem takeL_len (id : IdM) : ∀ (ks : List KeyM) (lk : List (KeyM × IdM)), (takeL id ks lk).length ≤ lk.length + ks.length
 | [], lk => by simp [takeL]
 | a :: ks, lk => by
  have h1 := takeL_len id ks (ins a id lk)
  have h2 := ins_len a id lk
  have e : takeL id (a :: ks) lk = takeL id ks (ins a id lk) := rfl
  rw [e, List.length_cons]
  omega
theorem takeL_perm {id : IdM} {ks ks' : List KeyM} {lk : List (KeyM × IdM)} (hn : (keysL lk).Nodup) (h : ∀ x, x ∈ ks ↔ x ∈ ks') : (takeL id ks lk).Perm (takeL id ks' lk) :=
 perm_of_lkp (takeL_nodup id ks hn) (takeL_nodup id ks' hn) fun k => by
  rw [takeL_lkp, takeL_lkp]
  by_cases h1 : k ∈ ks
  · rw [if_pos h1, if_pos ((h k).1 h1)]
  · rw [if_neg h1, if_neg fun h2 => h1 ((h k).2 h2)]
theorem keys_filter {κ α : Type} (P : κ × α → Bool) (l : List (κ × α)) : (keysL (l.filter P)).Sublist (keysL l) := (List.filter_sublist (p := P) (l := l)).map _
theorem free_nodup {id : IdM} {lk : List (KeyM × IdM)} (h : (keysL lk).Nodup) : (keysL (freeL id lk)).Nodup := h.sublist (keys_filter _ _)
theorem lkp_filter {κ α : Type} [DecidableEq κ] {P : κ × α → Bool} : ∀ {l : List (κ × α)}, (keysL l).Nodup → ∀ k, lkp k (l.filter P) = match lkp k l with | some v => if P (k, v) then some v else none | none => none
 | [], _, k => rfl
 | (a, u) :: l, h, k => by
  have h' : a ∉ keysL l ∧ (keysL l).Nodup := List.nodup_cons.1 h
  have ih := lkp_filter (P := P) h'.2 k
  by_cases hk : a = k
  · subst hk
    have hn : lkp a l = none := lkp_none.2 h'.1
    rw [hn] at ih
    simp only [lkp, if_true]
    by_cases hp : P (a, u) = true
    · rw [List.filter_cons_of_pos hp, if_pos hp]
      simp only [lkp, if_true]
    · rw [List.filter_cons_of_neg hp, if_neg hp]
      exact ih
  · simp only [lkp, if_neg hk]
    rw [← ih]
    by_cases hp : P (a, u) = true
    · rw [List.filter_cons_of_pos hp]
      simp only [lkp, if_neg hk]
    · rw [List.filter_cons_of_neg hp]
theorem lkp_free {id : IdM} {lk : List (KeyM × IdM)} (h : (keysL lk).Nodup) (k : KeyM) : lkp k (freeL id lk) = match lkp k lk with | some i => if i = id then none else some i | none => none := by
 unfold freeL
 rw [lkp_filter h]
 cases lkp k lk with
 | none => rfl
 | some i => by_cases e : i = id <;> simp [e]
/-! ### What an operation does to a space's kind -/
theorem ofQ_kind (s : SpM) (q : SpSt) : (s.ofQ q).kind = s.kind := by cases q <;> rfl
theorem act_kindM (s : SpM) (o : Oq) (now : Int) : (s.act o now).2.2.kind = s.kind := by
 unfold SpM.act
 repeat (first | rfl | exact ofQ_kind _ _ | split)
theorem act_tabM {s : SpM} {o : Oq} {now : Int} (ho : 3 ≤ o.fn ∧ o.fn ≤ 5) (he : (s.act o now).2.1 = 0) : s.kind = 1 := by
 by_cases h1 : s.kind = 1
 · exact h1
 · exfalso
   have e6 : ¬ (6 ≤ o.fn ∧ o.fn ≤ 9) := by omega
   have e10 : ¬ (10 ≤ o.fn ∧ o.fn ≤ 12) := by omega
   unfold SpM.act at he
   rw [if_neg h1] at he
   by_cases h2 : s.kind = 2
   · rw [if_pos h2, if_neg e6] at he
     cases he
   · rw [if_neg h2, if_neg e10] at he
     cases he
/-! ### What holds of a vault -/
structure VInv (k : Nat) (st : VltM) : Prop where
 nsp : st.sp.length ≤ k
 npt : st.pt.length ≤ k
 nlk : st.lk.length ≤ k
 dsp : (keysL st.sp).Nodup
 dpt : (keysL st.pt).Nodup
 dlk : (keysL st.lk).Nodup
 may : ∀ e ∈ st.pt, allO e.2.ops = true
 own : ∀ e ∈ st.lk, ∃ p, lkp e.2 st.pt = some p ∧ e.1 ∈ p.ops.map lockOf
 has : ∀ e ∈ st.pt, ∀ o ∈ e.2.ops, lkp (lockOf o) st.lk = some e.1
 apart : ∀ e ∈ st.lk, ∀ e' ∈ st.lk, meetK e.1 e'.1 = true → e.2 = e'.2
 dvw : ∀ e ∈ st.pt, (keysL e.2.view).Nodup
 val8 : ∀ e ∈ st.pt, e.2.vals.length ≤ 8
 vw : ∀ e ∈ st.pt, ∀ x ∈ e.2.view, ∃ o ∈ e.2.ops, o.space = x.1
 tab : ∀ e ∈ st.pt, ∀ x ∈ e.2.view, (∀ o ∈ e.2.ops, o.space = x.1 → 3 ≤ o.fn ∧ o.fn ≤ 5) → ∃ s t, x.2 = some s ∧ s.kind = 1 ∧ lkp x.1 st.sp = some t ∧ t.kind = 1
 zsp : ∀ n ∈ keysL st.sp, n.size ≤ 20
theorem VInv.nil : VInv 0 ⟨[], [], [], []⟩ := ⟨by simp, by simp, by simp, by simp [keysL], by simp [keysL], by simp [keysL], by simp, by simp, by simp, by simp, by simp, by simp, by simp, by simp, by simp [keysL]⟩
variable {k : Nat} {st : VltM} {id : IdM}
theorem VInv.mono {k' : Nat} (i : VInv k st) (h : k ≤ k') : VInv k' st := { i with nsp := Nat.le_trans i.nsp h, npt := Nat.le_trans i.npt h, nlk := Nat.le_trans i.nlk h }
theorem allF {l : List Oq} (h : allO l = true) : 1 ≤ l.length ∧ l.length ≤ 8 ∧ ∀ o ∈ l, mayO o = true := by
 simp only [allO, Bool.and_eq_true, decide_eq_true_eq, List.all_eq_true] at h
 exact ⟨h.1.1, h.1.2, h.2⟩
theorem VInv.ops8 (i : VInv k st) : ∀ e ∈ st.pt, e.2.ops.length ≤ 8 := fun e he => (allF (i.may e he)).2.1
theorem VInv.few (i : VInv k st) (id : IdM) : (st.lk.filter fun e => decide (e.2 = id)).length ≤ 8 := by
 cases hp : lkp id st.pt with
 | none =>
  have : (st.lk.filter fun e => decide (e.2 = id)) = [] := by
   rw [List.filter_eq_nil_iff]
   intro e he hh
   obtain ⟨p, h1, _⟩ := i.own e he
   rw [of_decide_eq_true hh, hp] at h1
   cases h1
  rw [this]; simp
 | some p =>
  have h8 := i.ops8 _ (lkp_mem hp)
  have hn : (keysL (st.lk.filter fun e => decide (e.2 = id))).Nodup := i.dlk.sublist (keys_filter _ _)
  have := nodup_sub_len hn (m := p.ops.map lockOf) fun x hx => by
   obtain ⟨e, he, rfl⟩ := List.mem_map.1 hx
   obtain ⟨h1, h2⟩ := List.mem_filter.1 he
   obtain ⟨p', h3, h4⟩ := i.own e h1
   rw [of_decide_eq_true h2, hp] at h3
   cases h3
   exact h4
  rw [List.length_map] at this
  have e1 : (keysL (st.lk.filter fun e => decide (e.2 = id))).length = (st.lk.filter fun e => decide (e.2 = id)).length := by simp [keysL]
  have h8 : p.ops.length ≤ 8 := h8
  omega
theorem VInv.few_take (i : VInv k st) (hp : lkp id st.pt = none) (ks : List KeyM) : ((takeL id ks st.lk).filter fun e => decide (e.2 = id)).length ≤ ks.length := by
 have hn : (keysL ((takeL id ks st.lk).filter fun e => decide (e.2 = id))).Nodup := (takeL_nodup id ks i.dlk).sublist (keys_filter _ _)
 have := nodup_sub_len hn (m := ks) fun x hx => by
  obtain ⟨e, he, rfl⟩ := List.mem_map.1 hx
  obtain ⟨h1, h2⟩ := List.mem_filter.1 he
  have h3 := lkp_of (takeL_nodup id ks i.dlk) (show (e.1, e.2) ∈ takeL id ks st.lk from h1)
  rw [takeL_lkp] at h3
  by_cases hk : e.1 ∈ ks
  · exact hk
  · rw [if_neg hk, of_decide_eq_true h2] at h3
    obtain ⟨p, h4, _⟩ := i.own _ (lkp_mem h3)
    rw [show ((e.1, id) : KeyM × IdM).2 = id from rfl, hp] at h4
    cases h4
 have e1 : (keysL ((takeL id ks st.lk).filter fun e => decide (e.2 = id))).length = ((takeL id ks st.lk).filter fun e => decide (e.2 = id)).length := by simp [keysL]
 omega
end Go.Abs
namespace Go.Abs
open Go
def plNo : Pl := plPure True
def reOk (is : List Nat) (n : Nat) : Bool := decide is.Nodup && is.all fun i => decide (i < n)
section
variable {F : Fr} {h : AHeap} {L : List Pl}
theorem Sep.re (pre : List Pl) (is : List Nat) (s : Sep F h (pre ++ L)) (hp : reOk is pre.length = true) : Sep F h (is.map (fun i => pre.getD i plNo) ++ L) := by
 simp only [reOk, Bool.and_eq_true, decide_eq_true_eq, List.all_eq_true] at hp
 obtain ⟨hn, hl⟩ := hp
 let js := (List.range pre.length).filter fun i => decide (i ∉ is)
 have e1 : pre = (List.range pre.length).map fun i => pre.getD i plNo := by
  refine List.ext_getElem (by simp) fun i h1 h2 => ?_
  simp [h1]
 have hperm : (List.range pre.length).Perm (js ++ is) := by
  refine (List.perm_ext_iff_of_nodup List.nodup_range ?_).2 fun x => ?_
  · rw [List.nodup_append]
    refine ⟨List.nodup_range.sublist List.filter_sublist, hn, ?_⟩
    intro a ha b hb e
    have := (List.mem_filter.1 ha).2
    rw [decide_eq_true_eq] at this
    exact this (e ▸ hb)
  · rw [List.mem_append, List.mem_filter, List.mem_range]
    constructor
    · intro hx
      by_cases hi : x ∈ is
      · exact .inr hi
      · exact .inl ⟨hx, by simpa using hi⟩
    · rintro (hx | hx)
      · exact hx.1
      · exact hl x hx
 have s1 : Sep F h ((js.map fun i => pre.getD i plNo) ++ ((is.map fun i => pre.getD i plNo) ++ L)) := by
  refine s.perm ?_
  rw [← List.append_assoc, ← List.map_append]
  refine List.Perm.append_right L ?_
  conv => lhs; rw [e1]
  exact hperm.map _
 exact s1.dropL
theorem Sep.re3 {A0 A1 A2 : Pl} (s : Sep F h (A0 :: A1 :: A2 :: L)) (is : List Nat) (hp : reOk is 3 = true) : Sep F h (is.map (fun i => [A0, A1, A2].getD i plNo) ++ L) := Sep.re [A0, A1, A2] is s hp
theorem Sep.re4 {A0 A1 A2 A3 : Pl} (s : Sep F h (A0 :: A1 :: A2 :: A3 :: L)) (is : List Nat) (hp : reOk is 4 = true) : Sep F h (is.map (fun i => [A0, A1, A2, A3].getD i plNo) ++ L) := Sep.re [A0, A1, A2, A3] is s hp
theorem Sep.re5 {A0 A1 A2 A3 A4 : Pl} (s : Sep F h (A0 :: A1 :: A2 :: A3 :: A4 :: L)) (is : List Nat) (hp : reOk is 5 = true) : Sep F h (is.map (fun i => [A0, A1, A2, A3, A4].getD i plNo) ++ L) := Sep.re [A0, A1, A2, A3, A4] is s hp
theorem Sep.re6 {A0 A1 A2 A3 A4 A5 : Pl} (s : Sep F h (A0 :: A1 :: A2 :: A3 :: A4 :: A5 :: L)) (is : List Nat) (hp : reOk is 6 = true) : Sep F h (is.map (fun i => [A0, A1, A2, A3, A4, A5].getD i plNo) ++ L) := Sep.re [A0, A1, A2, A3, A4, A5] is s hp
theorem Sep.re7 {A0 A1 A2 A3 A4 A5 A6 : Pl} (s : Sep F h (A0 :: A1 :: A2 :: A3 :: A4 :: A5 :: A6 :: L)) (is : List Nat) (hp : reOk is 7 = true) : Sep F h (is.map (fun i => [A0, A1, A2, A3, A4, A5, A6].getD i plNo) ++ L) := Sep.re [A0, A1, A2, A3, A4, A5, A6] is s hp
theorem Sep.re8 {A0 A1 A2 A3 A4 A5 A6 A7 : Pl} (s : Sep F h (A0 :: A1 :: A2 :: A3 :: A4 :: A5 :: A6 :: A7 :: L)) (is : List Nat) (hp : reOk is 8 = true) : Sep F h (is.map (fun i => [A0, A1, A2, A3, A4, A5, A6, A7].getD i plNo) ++ L) := Sep.re [A0, A1, A2, A3, A4, A5, A6, A7] is s hp
theorem Sep.re9 {A0 A1 A2 A3 A4 A5 A6 A7 A8 : Pl} (s : Sep F h (A0 :: A1 :: A2 :: A3 :: A4 :: A5 :: A6 :: A7 :: A8 :: L)) (is : List Nat) (hp : reOk is 9 = true) : Sep F h (is.map (fun i => [A0, A1, A2, A3, A4, A5, A6, A7, A8].getD i plNo) ++ L) := Sep.re [A0, A1, A2, A3, A4, A5, A6, A7, A8] is s hp
theorem Sep.re10 {A0 A1 A2 A3 A4 A5 A6 A7 A8 A9 : Pl} (s : Sep F h (A0 :: A1 :: A2 :: A3 :: A4 :: A5 :: A6 :: A7 :: A8 :: A9 :: L)) (is : List Nat) (hp : reOk is 10 = true) : Sep F h (is.map (fun i => [A0, A1, A2, A3, A4, A5, A6, A7, A8, A9].getD i plNo) ++ L) := Sep.re [A0, A1, A2, A3, A4, A5, A6, A7, A8, A9] is s hp
theorem Sep.re11 {A0 A1 A2 A3 A4 A5 A6 A7 A8 A9 A10 : Pl} (s : Sep F h (A0 :: A1 :: A2 :: A3 :: A4 :: A5 :: A6 :: A7 :: A8 :: A9 :: A10 :: L)) (is : List Nat) (hp : reOk is 11 = true) : Sep F h (is.map (fun i => [A0, A1, A2, A3, A4, A5, A6, A7, A8, A9, A10].getD i plNo) ++ L) := Sep.re [A0, A1, A2, A3, A4, A5, A6, A7, A8, A9, A10] is s hp
theorem Sep.re12 {A0 A1 A2 A3 A4 A5 A6 A7 A8 A9 A10 A11 : Pl} (s : Sep F h (A0 :: A1 :: A2 :: A3 :: A4 :: A5 :: A6 :: A7 :: A8 :: A9 :: A10 :: A11 :: L)) (is : List Nat) (hp : reOk is 12 = true) : Sep F h (is.map (fun i => [A0, A1, A2, A3, A4, A5, A6, A7, A8, A9, A10, A11].getD i plNo) ++ L) := Sep.re [A0, A1, A2, A3, A4, A5, A6, A7, A8, A9, A10, A11] is s hp
end
variable {F : Fr} {h : AHeap} {L : List Pl} {k k' : Nat} {p : V} {st : VltM}
theorem mono_vlt (hk : k ≤ k') (s : Sep F h (plVlt k p st :: L)) : Sep F h (plVlt k' p st :: L) := by
 obtain ⟨b, ms, a, mp, c, rfl, s1⟩ := s.openVlt
 have s2 := (Sep.monoM (mono_sp hk) s1.up1).up1
 have s3 := (Sep.monoM (mono_pt hk) s2.up3).dn3
 exact Sep.closeVlt s3
theorem Sep.permM {κ α : Type} [DecidableEq κ] {D : KD κ} {A : κ → V → α → Pl} {m : Nat} {l l' : List (κ × α)} (hp : l.Perm l') (s : Sep F h (plGM D A m l :: L)) : Sep F h (plGM D A m l' :: L) := by
 obtain ⟨t, clk, q, s1⟩ := s.openM
 exact Sep.closeM ⟨q.perm.trans hp, (keys_perm hp).nodup_iff.1 q.nd, q.bn, q.lt⟩ s1
theorem Sep.permLk {lk lk' : List (KeyM × IdM)} (hp : lk.Perm lk') (s : Sep F h (plLk p lk :: L)) : Sep F h (plLk p lk' :: L) := by
 obtain ⟨b, m, rfl, s1⟩ := s.openLk
 exact Sep.closeLk (Sep.permM hp s1.up1).up1
theorem Sep.nilStrs (s : Sep F h L) : Sep F h (plStrs (.slice none 0 0) [] :: L) := s.alloc (a' := []) (plStrs (.slice none 0 0) []) (Mod.refl (by simp)) Sl.nil
structure VlE (E : FE) : Prop where
 op : OpE E
 ack : ∃ E0 : FE, E.I (E.k 0) = some (cl (Go.Abs.F.queue_Queue_Ack_1 E0))
 take : ∃ E1 : FE, E.I (E.k 8) = some (cl (Go.Abs.F.lock_Locks_Take_1 E1))
 ord : ∃ E1 : FE, E.I (E.k 9) = some (cl (Go.Abs.F.lock_order E1))
 nord : ∃ E1 : FE, E.I (E.k 10) = some (cl (Go.Abs.F.name_order E1))
theorem append_str {v : V} {fp : List Nat} {l : List ByteArray} (s : Ts h fp v l) (hsz : l.length ≤ 1000000) (x : ByteArray) :
 ∃ h1, buildSliceD (some (1, [(.string ⟨#[]⟩)])) 1 [(0, str x)] h = some (.slice (some ⟨h.next, 0, none⟩) 1 2, h1) ∧
  ∃ v' h2 fp', appendD (some (1, 16, [(.string ⟨#[]⟩)])) v (.slice (some ⟨h.next, 0, none⟩) 1 2) h1 = some (v', h2) ∧ Ts h2 fp' v' (l ++ [x]) ∧ Mod h fp h2 fp' := by
 refine ⟨h.new (.cells [str x] 1 .rw), rfl, ?_⟩
 have s1 : Ts (h.new (.cells [str x] 1 .rw)) fp v l := s.same (by simp) fun y hy => by
  have := s.lt y hy
  have : y ≠ h.next := by omega
  simp [this]
 obtain ⟨v', h', fl', a1, a2, a3⟩ := Sl.append s1 (x := .slice (some ⟨h.next, 0, none⟩) 1 2) (k := 1) (bytes := 16) (z := [.string ⟨#[]⟩]) (new := [str x]) rfl (by decide) (by decide) rfl
  (fun _ => by simp [aSrc, sliceCells, AHeap.rdN]) rfl rfl (by omega)
 refine ⟨v', h', fl', a1, by simpa [Ts] using a2, (Mod.newBox (h := h) (fp := fp) s.lt).trans a3⟩
theorem part_build {fp : List Nat} {v : V} {l : List Oq} (s : SlE dOp h fp v l) (n : Int) (m : Nat) (h' : AHeap) :
 buildD (.struct [(.slice none 0 0), (.slice none 0 0), (.int .i64 0), (.map none)] [(0, 1), (1, 1), (2, 1), (3, 1)]) [(0, v), (2, i64 n), (3, .map (some m))] = some (.agg #[v, .slice none 0 0, i64 n, .map (some m)]) ∧
 newD none (.agg #[v, .slice none 0 0, i64 n, .map (some m)]) h' = some (ptr h'.next 0, h'.new (.cells [v, .slice none 0 0, i64 n, .map (some m)] 4 .rw)) := by
 obtain ⟨_, ⟨rfl, _, _⟩ | ⟨b, c, all, rfl, _⟩⟩ := s
 · exact ⟨rfl, rfl⟩
 · exact ⟨rfl, rfl⟩
end Go.Abs
namespace Go.Abs
open Go Go.RowKit
def AllRo (h : AHeap) : Prop := ∀ b o, h.get b = some o → o.isRo
structure More (r : Ren) (h : AHeap) (r' : Ren) (h' : AHeap) : Prop where
 ren : r.le r'
 next : h.next ≤ h'.next
 get : ∀ b, b < h.next → h'.get b = h.get b
theorem Ro.more {r r' : Ren} {h h' : AHeap} {v : V} {es n : Nat} {cs : List V} (m : More r h r' h') (s : Ro h.next h v es n cs) : Ro h'.next h' v es n cs := by
 obtain ⟨h0, h1, ⟨rfl, rfl⟩ | ⟨b, o, c, all, rfl, hb, hc, hg, ha⟩⟩ := s
 · exact ⟨h0, Nat.le_refl _, .inl ⟨rfl, rfl⟩⟩
 · exact ⟨h0, Nat.le_refl _, .inr ⟨b, o, c, all, rfl, Nat.lt_of_lt_of_le hb m.next, hc, by rw [m.get b hb, hg], ha⟩⟩
theorem R.addSlice {J : World → Prop} {W : World} {r : Ren} {h : AHeap} (hR : R J W.heap.size r h W) (hro : AllRo h) {a : Addr} {len cap es : Nat} (hs : a.spot = none) {cc : Array V} {el : TypeId} {fr : Nat × Nat}
 (hb : W.heap[a.block]? = some (.cells cc el fr)) (hsz : a.off + cap * es ≤ cc.size) (hlc : len ≤ cap) {cs : List V} (hcs : cs.length = len * es) (hc : ∀ j, j < len * es → cc[a.off + j]? = cs[j]?) (hcl : ∀ v ∈ cs, closedV v = true) :
 ∃ r' h' v, R J W.heap.size r' h' W ∧ VR r' v (.slice (some a) len cap) ∧ Ro h'.next h' v es len cs ∧ More r h r' h' := by
 obtain ⟨blk, off, spot⟩ := a
 simp only at hs hb hsz hc
 subst hs
 have hlt : blk < W.heap.size := (Array.getElem?_eq_some_iff.1 hb).1
 have hm : len * es ≤ cap * es := Nat.mul_le_mul_right _ hlc
 have hle := hR.le_upd ⟨blk, cc.size, es⟩
 have old : ∀ b o1, (h.new (.cells (List.replicate off junk ++ cs) es .ro)).get b = some o1 → (b = h.next ∧ o1 = .cells (List.replicate off junk ++ cs) es .ro) ∨ (b ≠ h.next ∧ h.get b = some o1) := by
  intro b o1 hb
  by_cases e : b = h.next
  · subst e; simp [AHeap.new] at hb; exact .inl ⟨rfl, hb.symm⟩
  · exact .inr ⟨e, by simpa [AHeap.new, e] using hb⟩
 refine ⟨r.upd h.next ⟨blk, cc.size, es⟩, h.new (.cells (List.replicate off junk ++ cs) es .ro), .slice (some ⟨h.next, off, none⟩) len (2 * len + 1), ?_, ?_, ?_, hle, Nat.le_succ _, fun b hb => ?_⟩
 · refine ⟨Nat.le_refl _, ?_, ?_, ?_, hR.inv⟩
   · intro b t' hb
     by_cases e : b = h.next
     · subst e; rw [Ren.upd_same] at hb; cases hb; exact ⟨hlt, by simp [AHeap.new]⟩
     · rw [Ren.upd_ne _ _ e] at hb
       have := hR.lt b t' hb
       refine ⟨this.1, ?_⟩
       simp [AHeap.new]; omega
   · intro b o1 hb1
     rcases old b o1 hb1 with ⟨rfl, rfl⟩ | ⟨e, hb'⟩
     · refine ⟨_, Ren.upd_same _ _ _, rfl, ⟨cc, el, fr, hb, rfl, by simp; omega, fun i h1 h2 => ?_, fun hk => absurd rfl hk, fun hk => by cases hk⟩, fun hk => absurd rfl hk⟩
       rw [List.getElem_append]
       split
       · rw [List.getElem_replicate]; exact .junk _
       · rename_i hi
         simp only [List.length_replicate] at hi
         have hj : i - off < cs.length := by simp at h1; omega
         have := hc (i - off) (by omega)
         rw [show off + (i - off) = i by omega, Array.getElem?_eq_getElem h2, List.getElem?_eq_getElem hj, Option.some.injEq] at this
         simp only [List.length_replicate]
         rw [this]
         exact VR.closed (hcl _ (List.getElem_mem _))
     · obtain ⟨t', h3, h4⟩ := hR.live b o1 hb'
       exact ⟨t', hle _ _ h3, h4.mono hle⟩
   · intro b b' o1 o1' t1 t1' hb hb' g1 g1' e
     rcases old b o1 hb with ⟨rfl, rfl⟩ | ⟨e1, hb⟩ <;> rcases old b' o1' hb' with ⟨rfl, rfl⟩ | ⟨e2, hb'⟩
     · exact .inl rfl
     · exact .inr ⟨⟨_, _, rfl⟩, hro _ _ hb'⟩
     · exact .inr ⟨hro _ _ hb, _, _, rfl⟩
     · rw [Ren.upd_ne _ _ e1] at g1; rw [Ren.upd_ne _ _ e2] at g1'
       exact hR.inj b b' o1 o1' t1 t1' hb hb' g1 g1' e
 · exact VR.slice (b := h.next) (o := off) (n := len) (c := 2 * len + 1) (c' := cap) (t := ⟨blk, cc.size, es⟩) (Ren.upd_same _ _ _) ⟨by omega, fun he => by omega⟩ (by omega) hsz
 · refine ⟨hcs, Nat.le_refl _, .inr ⟨h.next, off, 2 * len + 1, List.replicate off junk ++ cs, rfl, by simp [AHeap.new], by omega, by simp [AHeap.new], ?_⟩⟩
   rw [List.drop_append, List.drop_of_length_le (by simp)]
   simp [← hcs]
 · have : b ≠ h.next := by omega
   simp [AHeap.new, this]
theorem More.refl (r : Ren) (h : AHeap) : More r h r h := ⟨Ren.le_refl r, Nat.le_refl _, fun _ _ => rfl⟩
theorem open_i64s {H : Type} {enc : TypeId × Value → H} {P : Program} {J : World → Prop} {W : World} {held : Bool} {base : Nat} {t e : TypeId} {v : V} {d : DataW H} {p : List MemPlace}
 (ht : P.underlying t = some (.slice e)) (he : P.underlying e = some (.int .i64)) (ce : P.cellsOf e = 1) {r : Ren} {h : AHeap} (hR : R J W.heap.size r h W) (hro : AllRo h)
 (hval : Value.okWide P W .any base t v) (hd : DataW.Trod enc P W 0 (fun _ => true) held t v d p) :
 ∃ (l : List Int) (r' : Ren) (h' : AHeap) (v' : V), R J W.heap.size r' h' W ∧ VR r' v' v ∧ Ints h'.next h' v' l ∧ More r h r' h' := by
 obtain ⟨fuel, hd⟩ := hd
 obtain ⟨a, len, cap, rfl⟩ := WideShapes.okWide_slice ht hval
 rcases Deep.open_slice ht hd with ⟨h1, _⟩ | ⟨a', len', cap', m, n, D, Pl, h1, _, hlc, hcap, hm, hx, hr⟩
 · simp only [Value.cells, List.cons.injEq, Value.slice.injEq, and_true] at h1
   obtain ⟨rfl, rfl, rfl⟩ := h1
   exact ⟨[], r, h, .slice none 0 0, hR, .sliceNil, ⟨rfl, Nat.le_refl _, .inl ⟨rfl, rfl⟩⟩, More.refl r h⟩
 · simp only [Value.cells, List.cons.injEq, Value.slice.injEq, and_true] at h1
   obtain ⟨h11, h12, h13⟩ := h1
   subst h11
   simp only [if_true] at hm
   rw [← h12, ← h13] at hlc
   rw [← h13] at hcap hm
   rw [hm] at hr
   clear h12 h13 hm hx
   obtain ⟨hs, cc, el, fr, hb, ho⟩ := okWide_slice_at ht hval
   rw [ce] at hr
   have hadd : ∀ k, a'.add k = ⟨a'.block, a'.off + k, none⟩ := by
    intro k
    obtain ⟨bb, oo, ss⟩ := a'
    simp only at hs
    subst hs
    exact addr_add _ _ _
   have each : ∀ i, i < cap → ∃ x : Int, cc[a'.off + i]? = some (i64 x) := by
    intro i hi
    obtain ⟨cs', h2, h3⟩ := hr i hi
    obtain ⟨h5, _, h4⟩ := World.cells?_some h2
    obtain ⟨c0, rfl⟩ : ∃ c0, cs' = [c0] := by
     match cs', h5 with
     | [c0], _ => exact ⟨c0, rfl⟩
    obtain ⟨x, h6, _⟩ := DataW.trod_int he h3
    simp only [List.cons.injEq, and_true] at h6
    have h7 := h4 0 (by decide)
    refine ⟨x, ?_⟩
    rw [hadd, addr_add, cell_of_block hb, Nat.add_zero, Nat.mul_one] at h7
    rw [h7, h6]
    rfl
   have hsz : a'.off + cap * 1 ≤ cc.size := by
    by_cases hc0 : cap = 0
    · omega
    · obtain ⟨x, h5⟩ := each (cap - 1) (by omega)
      have := (Array.getElem?_eq_some_iff.1 h5).1
      omega
   obtain ⟨X, hX⟩ := Deep.choose_lt (n := len) (p := fun i (x : Int) => cc[a'.off + i]? = some (i64 x)) fun i hi => each i (by omega)
   have hc1 : (((List.range len).map X).map i64).length = len * 1 := by simp
   have hc2 : ∀ j, j < len * 1 → cc[a'.off + j]? = (((List.range len).map X).map i64)[j]? := by
    intro j hj
    rw [hX j (by omega)]
    simp [show j < len by omega]
   have hc3 : ∀ u ∈ ((List.range len).map X).map i64, closedV u = true := by
    intro u hu
    obtain ⟨s, _, rfl⟩ := List.mem_map.1 hu
    rfl
   obtain ⟨r', h', v', hR', hv, hro', hm⟩ := R.addSlice hR hro (es := 1) hs hb hsz hlc hc1 hc2 hc3
   refine ⟨(List.range len).map X, r', h', v', hR', hv, ?_, hm⟩
   unfold Ints
   rw [List.length_map, List.length_range]
   exact hro'
end Go.Abs
namespace Go.Abs
open Go Go.RowKit
theorem R.start {J : World → Prop} {W : World} (hJ : J W) : ∃ r h, R J W.heap.size r h W := by
 obtain ⟨r, h, _, hR, _, _⟩ := R.ofNil (W := W) hJ 1
 exact ⟨r, h, hR⟩
def AHeap.ros (h : AHeap) : AHeap := ⟨fun x => match h.get x with | some (.cells c e .ro) => some (.cells c e .ro) | _ => none, h.next⟩
theorem ros_get {h : AHeap} {b : Nat} {o : AObj} (hb : h.ros.get b = some o) : ∃ c e, h.get b = some (.cells c e .ro) ∧ o = .cells c e .ro := by
 simp only [AHeap.ros] at hb
 split at hb
 · rename_i c e he
   cases hb
   exact ⟨c, e, he, rfl⟩
 · cases hb
theorem R.roOnly {J : World → Prop} {B : Nat} {r : Ren} {h : AHeap} {W : World} (hR : R J B r h W) : R J B r h.ros W ∧ AllRo h.ros :=
 ⟨hR.sub ⟨Nat.le_refl _, fun b o hb => by
  obtain ⟨c, e, h1, rfl⟩ := ros_get hb
  exact h1⟩, fun b o hb => by
  obtain ⟨c, e, _, rfl⟩ := ros_get hb
  exact ⟨_, _, rfl⟩⟩
theorem Ro.ros {N : Nat} {h : AHeap} {v : V} {es n : Nat} {cs : List V} (s : Ro N h v es n cs) : Ro N h.ros v es n cs := by
 obtain ⟨h0, h1, ⟨rfl, rfl⟩ | ⟨b, o, c, all, rfl, hb, hc, hg, ha⟩⟩ := s
 · exact ⟨h0, h1, .inl ⟨rfl, rfl⟩⟩
 · exact ⟨h0, h1, .inr ⟨b, o, c, all, rfl, hb, hc, by simp only [AHeap.ros, hg], ha⟩⟩
theorem oq_space {H : Type} {enc : TypeId × Value → H} {P : Program} {w : World} {base : Nat} {spare : Nat → Bool} {held : Bool} {fuel : Nat} {e : TypeId} {fs : Array Field} {cs : List V} {x : DataW H × List MemPlace}
 (he : P.underlying e = some (.struct fs)) (ce : P.cellsOf e = 5) (hf : ∀ i, i < 5 → ∃ f, fs[i]? = some f ∧ f.offset = i ∧ P.cellsOf f.type = 1 ∧ P.underlying f.type = some (qField i)) (hn : fs.size = 5)
 (h : DataW.trod enc P w base spare held fuel e cs = some x) {o : Oq} (ho : cs = o.cells) : o.space.size ≤ maxLen := by
 obtain ⟨xs, n, _, hx1, hl, hxs, hr⟩ := DataW.trod_struct he h
 obtain ⟨f, h1, h2, h3, h4⟩ := hf 1 (by decide)
 have h5 := hr 1 f h1
 rw [h2, h3] at h5
 have h6 : (cs.drop 1).take 1 = [str o.space] := by rw [ho]; rfl
 rw [h6] at h5
 rw [ce] at hl
 have hxi : 1 < xs.length := by omega
 rw [List.getElem?_eq_getElem hxi] at h5
 obtain ⟨m, h7, _, h8⟩ := DataW.trod_string (show P.underlying f.type = some .string from h4) h5
 simp only [List.cons.injEq, Value.string.injEq, and_true] at h7
 rw [h7]
 exact h8
theorem open_opsX {H : Type} {enc : TypeId × Value → H} {P : Program} {J : World → Prop} {W : World} {held : Bool} {base : Nat} {t e : TypeId} {fs : Array Field} {v : V} {d : DataW H} {p : List MemPlace}
 (ht : P.underlying t = some (.slice e)) (he : P.underlying e = some (.struct fs)) (ce : P.cellsOf e = 5) (hf : ∀ i, i < 5 → ∃ f, fs[i]? = some f ∧ f.offset = i ∧ P.cellsOf f.type = 1 ∧ P.underlying f.type = some (qField i)) (hn : fs.size = 5)
 {r : Ren} {h : AHeap} (hR : R J W.heap.size r h W) (hval : Value.okWide P W .any base t v) (hd : DataW.Trod enc P W 0 (fun _ => true) held t v d p) :
 ∃ (l : List Oq) (r' : Ren) (h' : AHeap) (v' : V), R J W.heap.size r' h' W ∧ VR r' v' v ∧ Oqs h'.next h' v' l ∧ More r h.ros r' h' ∧ ∀ o ∈ l, o.space.size ≤ maxLen := by
 obtain ⟨hR0, hro⟩ := hR.roOnly
 obtain ⟨fuel, hd⟩ := hd
 obtain ⟨a, len, cap, rfl⟩ := WideShapes.okWide_slice ht hval
 rcases Deep.open_slice ht hd with ⟨h1, _⟩ | ⟨a', len', cap', m, n, D, Pl, h1, _, hlc, hcap, hm, hx, hr⟩
 · simp only [Value.cells, List.cons.injEq, Value.slice.injEq, and_true] at h1
   obtain ⟨rfl, rfl, rfl⟩ := h1
   exact ⟨[], r, h.ros, .slice none 0 0, hR0, .sliceNil, ⟨rfl, Nat.le_refl _, .inl ⟨rfl, rfl⟩⟩, More.refl r h.ros, by simp⟩
 · simp only [Value.cells, List.cons.injEq, Value.slice.injEq, and_true] at h1
   obtain ⟨h11, h12, h13⟩ := h1
   subst h11
   simp only [if_true] at hm
   rw [← h12, ← h13] at hlc
   rw [← h13] at hcap hm
   rw [hm] at hr
   clear h12 h13 hm hx
   obtain ⟨hs, cc, el, fr, hb, ho⟩ := okWide_slice_at ht hval
   rw [ce] at hr
   have hadd : ∀ k, a'.add k = ⟨a'.block, a'.off + k, none⟩ := by
    intro k
    obtain ⟨bb, oo, ss⟩ := a'
    simp only at hs
    subst hs
    exact addr_add _ _ _
   have each : ∀ i, i < cap → ∃ o : Oq, (∀ j, j < 5 → cc[a'.off + (i * 5 + j)]? = o.cells[j]?) ∧ o.space.size ≤ maxLen := by
    intro i hi
    obtain ⟨cs', h2, h3⟩ := hr i hi
    obtain ⟨o, hoc, _, hz⟩ := open_oq he ce hf hn h3
    have hsp := oq_space he ce hf hn h3 hoc
    subst hoc
    obtain ⟨_, _, h4⟩ := World.cells?_some h2
    refine ⟨o, fun j hj => ?_, hsp⟩
    rw [← h4 j hj, hadd, addr_add]
    rw [cell_of_block hb, Nat.add_assoc]
   have hsz : a'.off + cap * 5 ≤ cc.size := by
    by_cases hc0 : cap = 0
    · omega
    · obtain ⟨o, h5, _⟩ := each (cap - 1) (by omega)
      have h6 := h5 4 (by decide)
      have h7 : o.cells[4]? = some (i64 o.n) := rfl
      rw [h7] at h6
      have := (Array.getElem?_eq_some_iff.1 h6).1
      omega
   obtain ⟨O, hO⟩ := Deep.choose_lt (n := len) (p := fun i (o : Oq) => (∀ j, j < 5 → cc[a'.off + (i * 5 + j)]? = o.cells[j]?) ∧ o.space.size ≤ maxLen) fun i hi => each i (by omega)
   have hlen : ∀ l : List Oq, (l.flatMap Oq.cells).length = l.length * 5 := by
    intro l
    induction l with
    | nil => rfl
    | cons o l ih => simp [List.flatMap_cons, ih, Oq.cells]; omega
   have hc1 : (((List.range len).map O).flatMap Oq.cells).length = len * 5 := by rw [hlen, List.length_map, List.length_range]
   have hc2 : ∀ j, j < len * 5 → cc[a'.off + j]? = (((List.range len).map O).flatMap Oq.cells)[j]? := by
    intro j hj
    have h1 : j / 5 < len := by omega
    have h2 := oqs_cells ((List.range len).map O) (j / 5) (O (j / 5)) (by simp [h1]) (j % 5) (by omega)
    rw [show j / 5 * 5 + j % 5 = j by omega] at h2
    rw [h2, ← (hO (j / 5) h1).1 (j % 5) (by omega), show j / 5 * 5 + j % 5 = j by omega]
   have hc3 : ∀ u ∈ ((List.range len).map O).flatMap Oq.cells, closedV u = true := by
    intro u hu
    simp only [List.mem_flatMap] at hu
    obtain ⟨o, _, hu⟩ := hu
    simp only [Oq.cells, List.mem_cons, List.not_mem_nil, or_false] at hu
    rcases hu with rfl | rfl | rfl | rfl | rfl <;> rfl
   obtain ⟨r', h', v', hR', hv, hro', hm⟩ := R.addSlice hR0 hro (es := 5) hs hb hsz hlc hc1 hc2 hc3
   refine ⟨(List.range len).map O, r', h', v', hR', hv, ?_, hm, fun o ho => ?_⟩
   · unfold Oqs
     rw [List.length_map, List.length_range]
     exact hro'
   · obtain ⟨i, hi, rfl⟩ := List.mem_map.1 ho
     exact (hO i (by simpa using hi)).2
theorem open_intsX {H : Type} {enc : TypeId × Value → H} {P : Program} {J : World → Prop} {W : World} {held : Bool} {base : Nat} {t e : TypeId} {v : V} {d : DataW H} {p : List MemPlace}
 (ht : P.underlying t = some (.slice e)) (he : P.underlying e = some (.int .i64)) (ce : P.cellsOf e = 1) {r : Ren} {h : AHeap} (hR : R J W.heap.size r h W)
 (hval : Value.okWide P W .any base t v) (hd : DataW.Trod enc P W 0 (fun _ => true) held t v d p) :
 ∃ (l : List Int) (r' : Ren) (h' : AHeap) (v' : V), R J W.heap.size r' h' W ∧ VR r' v' v ∧ Ints h'.next h' v' l ∧ More r h.ros r' h' :=
 have h1 := hR.roOnly
 open_i64s ht he ce h1.1 h1.2 hval hd
theorem Ro.on {r r' : Ren} {h h' : AHeap} {v : V} {es n : Nat} {cs : List V} (m : More r h.ros r' h') (s : Ro h.next h v es n cs) : Ro h'.next h' v es n cs := Ro.more (h := h.ros) m (Ro.ros (h := h) s)
end Go.Abs

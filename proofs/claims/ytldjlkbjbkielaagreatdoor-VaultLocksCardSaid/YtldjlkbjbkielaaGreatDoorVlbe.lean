/- A vault: one operation of a part. -/
import Derived.Test.YtldjlkbjbkielaaGreatDoorVlbd
set_option linter.unusedSimpArgs false
set_option linter.unusedVariables false
namespace Go.Abs
open Go
variable {E : FE} {F : Fr} {h : AHeap} {L : List Pl} {k : Nat}
theorem vault_does {E0 : FE} (hM : MonoI E.I) (hE : E.I (E.k 0) = some (cl (Go.Abs.F.queue_Queue_Ack_1 E0))) {pv pp ms mv mp : Nat} {a c oa va : V} {now : Int} {sp : List (ByteArray × SpM)} {view : List (ByteArray × Option SpM)} {pt : List (IdM × PartM)}
 (o : Oq) (ho : mayO o = true) (hk : k ≤ 1000)
 (s : Sep F h (plBox pv [.map (some ms), a, .map (some mp), c] 4 :: plBox pp [oa, va, i64 now, .map (some mv)] 4 :: plGM kdStr (spV k) ms sp :: plGM kdStr (vwV k) mv view :: plGM kdId (ptV k) mp pt :: L))
 (b1 : sp.length ≤ 100000) (b2 : view.length ≤ 90000) (b3 : pt.length ≤ 1000) (b4 : ∀ e ∈ pt, e.2.ops.length ≤ 8) :
 cl (Go.Abs.F.vault_Vault_does E) [ptr pv 0, ptr pp 0, o.agg] h fun r h' => r = .tuple #[str (doesV sp pt now view o).1, i64 (doesV sp pt now view o).2.1] ∧
  Sep F h' (plBox pv [.map (some ms), a, .map (some mp), c] 4 :: plBox pp [oa, va, i64 now, .map (some mv)] 4 :: plGM kdStr (spV (k + 1)) ms sp :: plGM kdStr (vwV (k + 1)) mv (doesV sp pt now view o).2.2 :: plGM kdId (ptV (k + 1)) mp pt :: L) := by
 have mf := mayF ho
 refine cl_of ?_
 simp only [Go.Abs.F.vault_Vault_does, new5, kP_some]
 have s1 := s.box o.cells 5
 clear s
 generalize h.new (.cells o.cells 5 .rw) = h1 at s1 ⊢
 generalize h.next = bo at s1 ⊢
 have r1 : h1.rd bo 1 = some (str o.space) := by rw [rd_of s1.get 1]; rfl
 simp only [fieldAddr_ptr, kv_some, ld_one, Nat.zero_add, r1]
 refine cl_then (vault_sees o.space s1.dn4) ?_
 intro r h2 s3
 clear s1 r1
 have hl := sees_lkp sp o.space view
 have hvl := sees_len sp o.space view
 have hd : doesV sp pt now view o = (if o.fn = 1 then
  if (seesV sp o.space view).1.isSome then (⟨#[]⟩, 3, (seesV sp o.space view).2)
  else if 16 ≤ countV sp pt (seesV sp o.space view).2 then (⟨#[]⟩, 6, (seesV sp o.space view).2)
  else (⟨#[]⟩, 0, ins o.space (some (SpM.new o.n (mostO o.key))) (seesV sp o.space view).2)
  else match (seesV sp o.space view).1 with
   | none => (⟨#[]⟩, 3, (seesV sp o.space view).2)
   | some s =>
    if o.fn = 2 then (⟨#[]⟩, 0, ins o.space none (seesV sp o.space view).2)
    else ((s.act o now).1, (s.act o now).2.1, ins o.space (some (s.act o now).2.2) (seesV sp o.space view).2)) := rfl
 rw [hd]
 clear hd
 generalize (seesV sp o.space view).1 = X at s3 hl ⊢
 generalize (seesV sp o.space view).2 = V' at s3 hl hvl ⊢
 have fin : ∀ {h' : AHeap} {view' : List (ByteArray × Option SpM)}, Sep F h' (plGM kdStr (vwV k) mv view' :: plBox pv [.map (some ms), a, .map (some mp), c] 4 :: plBox pp [oa, va, i64 now, .map (some mv)] 4 :: plGM kdStr (spV k) ms sp :: plBox bo o.cells 5 :: plGM kdId (ptV k) mp pt :: L) →
  Sep F h' (plBox pv [.map (some ms), a, .map (some mp), c] 4 :: plBox pp [oa, va, i64 now, .map (some mv)] 4 :: plGM kdStr (spV (k + 1)) ms sp :: plGM kdStr (vwV (k + 1)) mv view' :: plGM kdId (ptV (k + 1)) mp pt :: L) := by
  intro h' view' s
  have s1 := (Sep.monoM (mono_vw (Nat.le_succ k)) s).dn3.up4.drop
  have s2 := (Sep.monoM (mono_sp (Nat.le_succ k)) s1.up2).dn2
  exact (Sep.monoM (mono_pt (Nat.le_succ k)) s2.up4).dn4
 have g : h2.get bo = some (.cells o.cells 5 .rw) := s3.drop.drop.drop.drop.drop.get
 have r0 : h2.rd bo 0 = some (i64 o.fn) := by rw [rd_of g 0]; rfl
 have nn := fun c => Sep.nilView (k := k) (n := o.space) s3.up1 c
 have ne := fun c => Sep.eqView (k := k) (n := o.space) s3.up1 c
 have shut : Sep F h2 (plGM kdStr (vwV k) mv V' :: plBox pv [.map (some ms), a, .map (some mp), c] 4 :: plBox pp [oa, va, i64 now, .map (some mv)] 4 :: plGM kdStr (spV k) ms sp :: plBox bo o.cells 5 :: plGM kdId (ptV k) mp pt :: L) := by
  have := Sep.backM (A := vwV k) (x' := X) s3.up1 hl
  rwa [ins_same hl] at this
 simp only [fieldAddr_ptr, kv_some, ld_one, Nat.zero_add, r0, bin_eql, bin_neq]
 by_cases h1f : o.fn = 1
 · have hb : (o.fn == 1) = true := by simp [h1f]
   have hb' : (o.fn != 1) = false := by simp [h1f]
   simp only [hb, hb', gdV_bool, if_true, kv_some, nn, pickV_bool]
   refine ⟨fun vs h' => vs = [.bool X.isSome] ∧ h' = h2, ?_, ?_⟩
   · cases X <;> simp [ifV_bool, gdV_bool, gdV_gone, pickV_bool]
   rintro e10 h3 ⟨he, rfl⟩
   simp only [List.cons.injEq, and_true] at he
   simp only [he, r0, kv_some, bin_eql, hb]
   rw [if_pos h1f]
   cases X with
   | some x =>
    simp only [Option.isSome_some, ifV_bool, if_true]
    exact ⟨trivial, fin shut⟩
   | none =>
    simp only [Option.isSome_none, ifV_bool, Bool.false_eq_true, if_false, gdV_bool, if_true, kv_some]
    have s4 := shut.up3.up5.dn2
    refine gdC_yes rfl (cl_then (vault_count s4 b1 (by omega) b3 b4) ?_)
    rintro r4 h4 ⟨rfl, s5⟩
    have s6 : Sep F h4 (plGM kdStr (vwV k) mv V' :: plBox pv [.map (some ms), a, .map (some mp), c] 4 :: plBox pp [oa, va, i64 now, .map (some mv)] 4 :: plGM kdStr (spV k) ms sp :: plBox bo o.cells 5 :: plGM kdId (ptV k) mp pt :: L) := s5.up2.dn5.dn3
    clear s4 s5 shut nn ne s3
    simp only [bin_geq, kv_some, pickV_bool, if_true, ifV_bool, decide_eq_true_eq, ge_iff_le]
    by_cases h16 : 16 ≤ countV sp pt V'
    · rw [if_pos (show (16 : Int) ≤ ((countV sp pt V' : Nat) : Int) by omega), if_pos h16]
      exact ⟨rfl, fin s6⟩
    rw [if_neg (show ¬ (16 : Int) ≤ ((countV sp pt V' : Nat) : Int) by omega), if_neg h16]
    have g4 : h4.get bo = some (.cells o.cells 5 .rw) := s6.drop.drop.drop.drop.get
    have q0 : h4.rd bo 0 = some (i64 o.fn) := by rw [rd_of g4 0]; rfl
    have q2 : h4.rd bo 2 = some (str o.key) := by rw [rd_of g4 2]; rfl
    have q1 : h4.rd bo 1 = some (str o.space) := by rw [rd_of g4 1]; rfl
    have q4 : h4.rd bo 4 = some (i64 o.n) := by rw [rd_of g4 4]; rfl
    have q3 : h4.rd pp 3 = some (.map (some mv)) := by rw [rd_of s6.drop.drop.get 3]; rfl
    simp only [q0, kv_some, bin_eql, hb, ifV_bool, if_true, q2, str_nonnil, Bool.not_eq_true', decide_eq_false_iff_not]
    obtain ⟨⟨n1, n2⟩, hkey⟩ := mf.make h1f
    refine ⟨fun vs h' => vs = [i64 (mostO o.key)] ∧ h' = h4, ?_, ?_⟩
    · by_cases hz : o.key.size = 0
      · rw [if_neg (by simp [hz])]
        have : mostO o.key = 1 := by
         have : o.key = ⟨#[]⟩ := ba_nil.2 hz
         rw [this]; rfl
        exact ⟨by rw [this], rfl⟩
      · rw [if_pos hz]
        have hdk : digitK o.key = true := hkey.resolve_right hz
        have hs1 : o.key.size = 1 := by
         by_cases h : o.key.size = 1
         · exact h
         · rw [digit_no h] at hdk; cases hdk
        rw [digit_eq hs1] at hdk
        simp only [Bool.and_eq_true, decide_eq_true_eq] at hdk
        have hi := index_str o.key 0 (by omega)
        have hi : indexD .str (str o.key) (.int .i64 0) = some (.int .u8 (o.key.get! 0).toNat) := hi
        have hm : mostO o.key = ((o.key.get! 0).toNat : Int) - 48 := by
         have h1 := get_data o.key (i := 0) (by omega)
         unfold mostO
         cases hl2 : o.key.data.toList with
         | nil => rw [hl2] at h1; simp at h1
         | cons x l2 => rw [hl2] at h1; simp at h1; rw [h1]
        generalize (o.key.get! 0).toNat = z at hi hm hdk
        have hw : IntKind.u8.wrap ((z : Int) - 48) = (z : Int) - 48 := by
         simp [IntKind.wrap, IntKind.signed, IntKind.bits]
         omega
        have hw2 : IntKind.i64.wrap ((z : Int) - 48) = (z : Int) - 48 := by
         simp [IntKind.wrap, IntKind.signed, IntKind.bits]
         omega
        rw [hi, kv_some, bin_sub, hw, kv_some]
        simp only [convD, Option.map_some, kv_some, hw2]
        exact ⟨by rw [hm], trivial⟩
    rintro e32 h5 ⟨he, rfl⟩
    simp only [List.cons.injEq, and_true] at he
    simp only [he, aNil_ptr, kv_some, fieldAddr_ptr, ld_one, Nat.zero_add, q3, q1, q4]
    refine cl_then (new_SpM (k := k) o.n (mostO o.key) (by omega) s6) ?_
    intro r6 h6 s7
    have t3 : h6.rd pp 3 = some (.map (some mv)) := by rw [rd_of s7.drop.drop.drop.get 3]; rfl
    have t1 : h6.rd bo 1 = some (str o.space) := by rw [rd_of s7.drop.drop.drop.drop.drop.get 1]; rfl
    refine ⟨t3, t1, ?_⟩
    obtain ⟨h7, e7, s8⟩ := Sep.insM (D := kdStr) (A := vwV k) (k := o.space) (v := r6) (x := some (SpM.new o.n (mostO o.key))) (z := nil) s7.up1
    have e7 : mapUpdateD (some (.string, (some (.pointer none)))) (.map (some mv)) (str o.space) r6 h6 = some h7 := e7
    rw [e7, kH_some]
    exact ⟨trivial, fin s8⟩
 · have hb : (o.fn == 1) = false := by simp [h1f]
   have hb' : (o.fn != 1) = true := by simp [h1f]
   simp only [hb, hb', gdV_bool, Bool.false_eq_true, if_false, kv_some, gdV_gone, pickV_bool, if_true, ifV_bool, ne]
   refine ⟨fun vs h' => vs = [.bool X.isNone] ∧ h' = h2, ⟨rfl, rfl⟩, ?_⟩
   rintro e10 h3 ⟨he, rfl⟩
   simp only [List.cons.injEq, and_true] at he
   simp only [he, r0, kv_some, bin_eql, hb, gdV_bool, Bool.false_eq_true, if_false]
   rw [if_neg h1f]
   cases X with
   | none =>
    simp only [Option.isNone_none, ifV_bool, if_true]
    exact ⟨trivial, fin shut⟩
   | some x =>
    simp only [Option.isNone_some, ifV_bool, Bool.false_eq_true, if_false]
    refine gdC_no (by simp) ?_
    simp only [gdV_bool, Bool.false_eq_true, if_false, kv_some, pickV_bool, ifV_bool, r0, bin_eql, hb]
    by_cases h2f : o.fn = 2
    · have hb2 : (o.fn == 2) = true := by simp [h2f]
      have r1 : h3.rd bo 1 = some (str o.space) := by rw [rd_of g 1]; rfl
      have r3 : h3.rd pp 3 = some (.map (some mv)) := by rw [rd_of shut.drop.drop.get 3]; rfl
      simp only [hb2, if_true, aNil_ptr, kv_some, fieldAddr_ptr, ld_one, Nat.zero_add, r3, r1]
      obtain ⟨h7, e7, s8⟩ := Sep.insM (D := kdStr) (A := vwV k) (k := o.space) (v := nil) (x := none) (z := nil) (Sep.up1 (Sep.mkPure (φ := (nil : V) = nil) rfl shut))
      have e7 : mapUpdateD (some (.string, (some (.pointer none)))) (.map (some mv)) (str o.space) nil h3 = some h7 := e7
      rw [e7, kH_some, if_pos h2f]
      exact ⟨rfl, fin s8⟩
    · have hb2 : (o.fn == 2) = false := by simp [h2f]
      have r2 : h3.rd pp 2 = some (i64 now) := by rw [rd_of shut.drop.drop.get 2]; rfl
      simp only [hb2, Bool.false_eq_true, if_false, ld5 g, aNil_ptr, kv_some, fieldAddr_ptr, ld_one, Nat.zero_add, r2]
      have hBB : BB = 1152921504606846976 := rfl
      refine cl_then (do_SpM hM hE (s := x) o now ⟨by have := mf.key; omega, by have := mf.val; omega⟩ (by omega) (by simp only [maxLen]; omega) hk s3.up1) ?_
      rintro r6 h6 ⟨rfl, s7⟩
      simp only [extract_tuple, List.getElem?_toArray, List.getElem?_cons_zero, List.getElem?_cons_succ, kv_some]
      rw [if_neg h2f]
      refine ⟨rfl, ?_⟩
      have s8 := (Sep.monoM (mono_hole (Nat.le_succ k) o.space r) s7.up1).up1
      have s9 := Sep.backM (A := vwV (k + 1)) (k := o.space) (v := r) (x := some x) (x' := some (x.act o now).2.2) s8 hl
      have s10 := s9.dn3.up4.drop
      have s11 := (Sep.monoM (mono_sp (Nat.le_succ k)) s10.up2).dn2
      exact (Sep.monoM (mono_pt (Nat.le_succ k)) s11.up4).dn4
end Go.Abs
namespace Go.Abs
open Go
variable {E : FE} {F : Fr} {h : AHeap} {L : List Pl} {k : Nat} {p : V} {st : VltM}
theorem partV_cons (sp : List (ByteArray × SpM)) (pt : List (IdM × PartM)) (now : Int) (o : Oq) (l : List Oq) (view : List (ByteArray × Option SpM)) (vals : List ByteArray) :
 partV sp pt now (o :: l) view vals = if (doesV sp pt now view o).2.1 = 0 then partV sp pt now l (doesV sp pt now view o).2.2 (vals ++ [(doesV sp pt now view o).1]) else none := rfl
theorem does_len (sp : List (ByteArray × SpM)) (pt : List (IdM × PartM)) (now : Int) (o : Oq) (view : List (ByteArray × Option SpM)) : (doesV sp pt now view o).2.2.length ≤ view.length + 1 := by
 have hvl := sees_len sp o.space view
 have hl := sees_lkp sp o.space view
 have hins : ∀ x, (ins o.space x (seesV sp o.space view).2).length ≤ view.length + 1 := fun x => by
  have : (keysL (ins o.space x (seesV sp o.space view).2)).length = (keysL (seesV sp o.space view).2).length := by
   rw [keys_ins, if_neg (by rw [hl]; simp)]
  simp only [keysL, List.length_map] at this
  omega
 unfold doesV
 simp only
 split
 · split
   · exact hvl
   · split
     · exact hvl
     · exact hins _
 · split
   · exact hvl
   · split
     · exact hins _
     · exact hins _
set_option maxHeartbeats 1000000 in
theorem vault_Prepare (ve : VlE E) (id : IdM) {ops : List Oq} (now : Int) {a2 : V} (hi : VInv k st) (hk : k ≤ 900) (hn : ops.length ≤ 1000000) (hz : ∀ o ∈ ops, o.space.size ≤ maxLen)
 (s : Sep F h (plVlt k p st :: plOps a2 ops :: L)) :
 cl (Go.Abs.F.vault_Vault_Prepare E) [p, id.agg, a2, i64 now] h fun r h' => ∃ w, r = .tuple #[w, .bool (prepV st id ops now).1.2] ∧
  Sep F h' (plStrs w (prepV st id ops now).1.1 :: plVlt (k + 8) p (prepV st id ops now).2 :: plOps a2 ops :: L) := by
 obtain ⟨E0, hE0⟩ := ve.ack
 obtain ⟨E8, hE8⟩ := ve.take
 obtain ⟨E9, hE9⟩ := ve.ord
 have hM := ve.op.mono
 refine cl_of ?_
 obtain ⟨b, ms, a, mp, c, rfl, s0⟩ := s.openVlt
 clear s
 simp only [Go.Abs.F.vault_Vault_Prepare, new2, kP_some, ptr_eq_nil, kv_some, gdV_bool, if_true, aNil_ptr, fieldAddr_ptr, ld_one, Nat.zero_add]
 have s1 := s0.box (cId id) 2
 clear s0
 generalize h.new (.cells (cId id) 2 .rw) = h1 at s1 ⊢
 generalize h.next = bi at s1 ⊢
 have r3 : h1.rd b 3 = some c := by rw [rd_of s1.drop.get 3]; rfl
 rw [r3, kv_some, ld2 s1.get, kv_some]
 refine gdC_yes rfl (cl_then (ids_Has id s1.up5) ?_)
 rintro r h2 ⟨rfl, s2⟩
 clear s1 r3
 have vlt : ∀ {h' : AHeap}, Sep F h' (plIds c st.ov :: plBox bi (cId id) 2 :: plBox b [.map (some ms), a, .map (some mp), c] 4 :: plGM kdStr (spV k) ms st.sp :: plLk a st.lk :: plGM kdId (ptV k) mp st.pt :: plOps a2 ops :: L) →
  Sep F h' (plStrs (.slice none 0 0) [] :: plVlt (k + 8) (ptr b 0) st :: plOps a2 ops :: L) := fun s =>
  (mono_vlt (Nat.le_add_right k 8) (Sep.closeVlt (s.re7 [2, 3, 4, 5, 0, 6] rfl))).nilStrs
 simp only [pickV_bool, Bool.false_eq_true, if_false, kv_some, gdV_bool]
 by_cases hov : id ∈ st.ov
 · have hp : prepV st id ops now = (([], false), st) := by unfold prepV; rw [if_pos (.inl hov)]
   rw [hp]
   simp only [hov, decide_true, Bool.true_eq_false, if_false, kv_some]
   refine gdC_no (by simp) ?_
   simp only [kv_some, pickV_bool, if_true, ifV_bool]
   exact ⟨_, rfl, vlt s2⟩
 simp only [hov, decide_false, if_true, kv_some]
 obtain ⟨f2, q2, _⟩ := s2.up6.head
 have q2 : SlE dOp h2 f2 a2 ops := q2
 refine gdC_yes rfl (cl_then (op_All ve.op q2 hn hz) ?_)
 rintro r h3 ⟨rfl, m3⟩
 have s3 := s2.skip m3
 clear s2 q2
 simp only [not_bool, kv_some, pickV_bool, Bool.false_eq_true, if_false, ifV_bool]
 cases ha : allO ops with
 | false =>
  have hp : prepV st id ops now = (([], false), st) := by unfold prepV; rw [if_pos (.inr ha)]
  rw [hp]
  simp only [Bool.not_false, if_true]
  exact ⟨_, rfl, vlt s3⟩
 | true =>
 simp only [Bool.not_true, Bool.false_eq_true, if_false]
 have hall := allF ha
 have r2 : h3.rd b 2 = some (.map (some mp)) := by rw [rd_of s3.drop.drop.get 2]; rfl
 rw [r2, kv_some, ld2 s3.drop.get, kv_some]
 cases hk1 : Go.Abs.lkp id st.pt with
 | some x =>
  have hp : prepV st id ops now = ((x.vals, true), st) := by
   unfold prepV
   rw [if_neg (by simp [hov, ha])]
   simp only [hk1]
  rw [hp]
  obtain ⟨w, e1, s4⟩ := s3.up5.lookSome (z := nil) hk1 false
  have e1 : lookupD (some ((.struct false [(0, .int), (1, .int)]), (some (.pointer none)))) (.map (some mp)) id.agg false h3 = some w := e1
  obtain ⟨b2, c1, c2, m2, rfl, s5⟩ := Sep.openPart (k := k) (x := x) s4
  have q1 : h3.rd b2 1 = some c2 := by rw [rd_of s5.get 1]; rfl
  rw [e1, kv_some]
  simp only [ptr_ne_nil, kv_some, ifV_bool, if_true, aNil_ptr, fieldAddr_ptr, ld_one, Nat.zero_add, q1]
  obtain ⟨f5, q5, _⟩ := s5.up2.head
  have q5 : Ts h3 f5 c2 x.vals := q5
  have hv8 := hi.val8 _ (lkp_mem hk1)
  refine cl_then (clone_strs q5 (Nat.le_trans hv8 (by decide))) ?_
  rintro r6 h6 ⟨fp', q6, m6⟩
  have s6 := s5.alloc (plStrs r6 x.vals) m6 q6
  have s7 := Sep.closePart (k := k) (x := x) (s6.re6 [1, 2, 3, 4, 5, 0] rfl)
  have s8 := Sep.backM (A := ptV k) (x' := x) s7 hk1
  rw [ins_same hk1] at s8
  refine ⟨_, rfl, ?_⟩
  have s9 := Sep.closeVlt (st := st) (s8.re8 [4, 5, 6, 0, 2, 1, 7] rfl)
  exact (mono_vlt (Nat.le_add_right k 8) s9).up1
 | none =>
 have e1 := s3.up5.lookNone (z := nil) hk1 false
 have e1 : lookupD (some ((.struct false [(0, .int), (1, .int)]), (some (.pointer none)))) (.map (some mp)) id.agg false h3 = some nil := e1
 have r1 : h3.rd b 1 = some a := by rw [rd_of s3.drop.drop.get 1]; rfl
 rw [e1, kv_some]
 simp only [nil_ne_nil, kv_some, ifV_bool, Bool.false_eq_true, if_false, r1, ld2 s3.drop.get]
 obtain ⟨f3, q3, _⟩ := s3.up6.head
 have q3 : SlE dOp h3 f3 a2 ops := q3
 refine cl_then (lock_Of hM hE9 q3 (by omega)) ?_
 rintro ksv h4 ⟨ks, fq, hks, hkl, q4, m4⟩
 have s4 := s3.alloc (plKs ksv ks) m4 q4
 clear s3 q3 e1 r1 r2
 have hks : ∀ x, x ∈ ks ↔ x ∈ ops.map lockOf := fun x => by
  rw [hks x, List.map_congr_left fun o _ => lockO_of o]
 refine ⟨by rw [rd_of s4.drop.drop.drop.get 1]; rfl, ld2 s4.drop.drop.get, ?_⟩
 refine cl_then (lock_Take hM hE8 id (s4.re8 [5, 0, 1, 2, 3, 4, 6, 7] rfl) (by omega)) ?_
 rintro r h5 ⟨rfl, s5⟩
 clear s4
 rw [blocked_mem hks] at s5 ⊢
 simp only [not_bool, kv_some, ifV_bool]
 cases hbl : blocked id (ops.map lockOf) st.lk with
 | true =>
  have hp : prepV st id ops now = (([], false), st) := by
   unfold prepV
   rw [if_neg (by simp [hov, ha])]
   simp only [hk1, hbl, if_true]
  rw [hp]
  rw [hbl, if_pos rfl] at s5
  simp only [Bool.not_true, Bool.not_false, if_true]
  exact ⟨_, rfl, vlt (s5.re8 [2, 3, 4, 5, 0, 6, 7] rfl)⟩
 | false =>
 rw [hbl, if_neg (by simp)] at s5
 have s5 := Sep.permLk (takeL_perm hi.dlk hks) s5
 generalize hlk1 : takeL id (ops.map lockOf) st.lk = lk1 at s5
 simp only [Bool.not_false, Bool.not_true, Bool.false_eq_true, if_false]
 obtain ⟨f5, q5, _⟩ := Sep.head (s5.re8 [7] rfl)
 have q5 : SlE dOp h5 f5 a2 ops := q5
 refine cl_then (clone_ops q5 (by omega)) ?_
 rintro oa h6 ⟨f6, q6, m6⟩
 have s6 := s5.alloc (plOps oa ops) m6 q6
 clear s5 q5
 have em : ∀ h : AHeap, makeMapD true none h = some (.map (some h.next), h.new (.map [] 0)) := fun _ => rfl
 rw [em, kP_some]
 have s7 := s6.newM (D := kdStr) (A := vwV k)
 generalize h6.next = mv at s7 ⊢
 obtain ⟨pb1, pb2⟩ := part_build q6 now mv (h6.new (.map [] 0))
 generalize h6.new (.map [] 0) = h7 at s7 pb2 ⊢
 rw [pb1, kv_some, pb2, kP_some]
 have s8 := (s7.box [oa, .slice none 0 0, i64 now, .map (some mv)] 4).nilStrs
 clear s6 s7 pb1 pb2 q6 m6
 generalize h7.next = bp at s8 ⊢
 generalize h7.new _ = h8 at s8 ⊢
 have s9 := s8.re12 [8, 1, 9, 2, 10, 0, 3, 4, 6, 7, 11] rfl
 clear s8
 have plen : ∀ {h : AHeap} {i : Nat} {va : V} {vals : List ByteArray} {view : List (ByteArray × Option SpM)}, Sep F h (plBox b [.map (some ms), a, .map (some mp), c] 4 :: plBox bp [oa, va, i64 now, .map (some mv)] 4 :: plGM kdStr (spV (k + i)) ms st.sp :: plGM kdStr (vwV (k + i)) mv view :: plGM kdId (ptV (k + i)) mp st.pt ::
  plStrs va vals :: plOps oa ops :: plLk a lk1 :: plIds c st.ov :: plBox bi (cId id) 2 :: plOps a2 ops :: L) → lenD .slice a2 h = some (i64 ops.length) := fun s => by
  obtain ⟨f, q, _⟩ := Sep.head (s.re11 [10] rfl)
  have q : SlE dOp _ f a2 ops := q
  exact q.len
 rw [plen (i := 0) s9, kv_some]
 refine ⟨fun n vs h' => ∃ (i : Nat) (va : V) (vals : List ByteArray) (view : List (ByteArray × Option SpM)), vs = [i64 i] ∧ n = ops.length - i ∧ i ≤ ops.length ∧ partV st.sp st.pt now (ops.drop i) view vals = partV st.sp st.pt now ops [] [] ∧ view.length ≤ i ∧ vals.length = i ∧
  Sep F h' (plBox b [.map (some ms), a, .map (some mp), c] 4 :: plBox bp [oa, va, i64 now, .map (some mv)] 4 :: plGM kdStr (spV (k + i)) ms st.sp :: plGM kdStr (vwV (k + i)) mv view :: plGM kdId (ptV (k + i)) mp st.pt ::
  plStrs va vals :: plOps oa ops :: plLk a lk1 :: plIds c st.ov :: plBox bi (cId id) 2 :: plOps a2 ops :: L),
  ops.length, ⟨0, _, [], [], rfl, by omega, by omega, rfl, by simp, rfl, s9⟩, ?_⟩
 clear s9
 rintro n e h9 ⟨i, va, vals, view, he, rfl, hi2, hpart, hvw, hvl, s9⟩
 simp only [List.cons.injEq, and_true] at he
 simp only [he, bin_lss, kv_some, ifV_bool, decide_eq_true_eq]
 rcases Nat.lt_or_ge i ops.length with hx | hx
 case inr =>
  rw [if_neg (show ¬ ((i : Nat) : Int) < (ops.length : Nat) by omega)]
  have hil : i = ops.length := by omega
  rw [hil, List.drop_length] at hpart
  have hp : prepV st id ops now = ((vals, true), { st with lk := lk1, pt := ins id ⟨ops, vals, now, view⟩ st.pt }) := by
   unfold prepV
   rw [if_neg (by simp [hov, ha])]
   simp only [hk1, hbl, ← hpart, partV, Bool.false_eq_true, if_false, hlk1]
  rw [hp]
  have t2 : h9.rd b 2 = some (.map (some mp)) := by rw [rd_of s9.get 2]; rfl
  have hbi := Sep.get (s9.re11 [9] rfl)
  simp only [t2, kv_some, ld2 hbi]
  obtain ⟨h10, e10, s11⟩ := Sep.insHole (D := kdId) (A := ptV (k + i)) (k := id) (w := ptr bp 0) (z := nil) (⟨ops, vals, now, view⟩ : PartM) (s9.re11 [4, 0, 1, 2, 3, 5, 6, 7, 8, 9, 10] rfl) hk1
  have e10 : mapUpdateD (some ((.struct false [(0, .int), (1, .int)]), (some (.pointer none)))) (.map (some mp)) id.agg (ptr bp 0) h9 = some h10 := e10
  have t1 : h10.rd bp 1 = some va := by rw [rd_of (Sep.get (s11.re11 [2] rfl)) 1]; rfl
  rw [e10, kH_some]
  simp only [aNil_ptr, fieldAddr_ptr, ld_one, Nat.zero_add, t1, kv_some]
  obtain ⟨f11, q11, _⟩ := Sep.head (s11.re11 [5] rfl)
  have q11 : Ts h10 f11 va vals := q11
  refine cl_then (clone_strs q11 (by omega)) ?_
  rintro r12 h12 ⟨fp', q12, m12⟩
  have s12 := s11.alloc (plStrs r12 vals) m12 q12
  have s13 := Sep.closePart (k := k + i) (x := (⟨ops, vals, now, view⟩ : PartM)) (s12.re12 [3, 7, 6, 5, 1, 0, 2, 4, 8, 9, 11] rfl)
  have hl : Go.Abs.lkp id (ins id (⟨ops, vals, now, view⟩ : PartM) st.pt) = some ⟨ops, vals, now, view⟩ := by rw [lkp_ins, if_pos rfl]
  have s14 := Sep.backM (A := ptV (k + i)) (k := id) (v := ptr bp 0) (x' := (⟨ops, vals, now, view⟩ : PartM)) s13 hl
  rw [ins_same hl] at s14
  refine ⟨_, rfl, ?_⟩
  have s15 := Sep.closeVlt (k := k + i) (st := ({ st with lk := lk1, pt := ins id ⟨ops, vals, now, view⟩ st.pt } : VltM)) (s14.re7 [2, 3, 4, 0, 5, 1, 6] rfl)
  exact (mono_vlt (by omega) s15).up1
 rw [if_pos (show ((i : Nat) : Int) < (ops.length : Nat) by omega)]
 obtain ⟨f9, q9, _⟩ := Sep.head (s9.re11 [10] rfl)
 have q9 : SlE dOp h9 f9 a2 ops := q9
 obtain ⟨cb, i1, i2⟩ := q9.ld (List.getElem?_eq_getElem hx)
 have i1 : indexAddrD (.slice 5) a2 (i64 i) = _ := i1
 have i2 : ldD (.agg 5) _ h9 = some (ops[i]).agg := i2
 have hdrop : ops.drop i = ops[i] :: ops.drop (i + 1) := List.drop_eq_getElem_cons hx
 have hmo : mayO ops[i] = true := hall.2.2 _ (List.getElem_mem hx)
 rw [hdrop, partV_cons] at hpart
 clear hdrop q9
 generalize ops[i] = o at i2 hpart hmo
 simp only [i1, kv_some, i2, newO0, kP_some]
 have t1 := s9.box ((⟨0, ⟨#[]⟩, ⟨#[]⟩, ⟨#[]⟩, 0⟩ : Oq).cells) 5
 clear s9
 rw [st5 t1.get, kH_some]
 have t2 := t1.write (cs' := o.cells)
 clear t1
 generalize AHeap.put _ _ _ = h10 at t2 ⊢
 rw [ld5 t2.get, kv_some]
 refine cl_then (vault_does hM hE0 o hmo (by omega) t2.drop (Nat.le_trans hi.nsp (by omega)) (by omega) (Nat.le_trans hi.npt (by omega)) hi.ops8) ?_
 rintro r h11 ⟨rfl, t3⟩
 clear t2
 have hdl := does_len st.sp st.pt now o view
 generalize doesV st.sp st.pt now view o = D at t3 hpart hdl ⊢
 obtain ⟨val, err, view'⟩ := D
 simp only at t3 hpart hdl
 simp only [extract_tuple, List.getElem?_toArray, List.getElem?_cons_zero, List.getElem?_cons_succ, kv_some, bin_neq, ifV_bool]
 by_cases herr : err = 0
 · have hb : (err != 0) = false := by simp [herr]
   rw [if_pos herr] at hpart
   have u1 : h11.rd bp 1 = some va := by rw [rd_of t3.drop.get 1]; rfl
   simp only [hb, Bool.false_eq_true, if_false, aNil_ptr, fieldAddr_ptr, ld_one, Nat.zero_add, u1, kv_some]
   have t4 := t3.re11 [5, 0, 1, 2, 3, 4, 6, 7, 8, 9, 10] rfl
   clear t3 u1
   obtain ⟨f, q, kk⟩ := Sep.head t4
   have q : Ts h11 f va vals := q
   obtain ⟨h12, a1, va', h13, fw, a2', q13, m13⟩ := append_str q (by omega) val
   have t5 := kk (plStrs va' (vals ++ [val])) m13 q13
   rw [a1, kP_some, a2', kP_some]
   have u2 : h13.get bp = some (.cells [oa, va, i64 now, .map (some mv)] 4 .rw) := t5.drop.drop.get
   obtain ⟨c1, c2⟩ := Sl.cell q13
   rw [st_one u2 (by simp) c1 c2 (by simp), kH_some]
   have t6 := (t5.up2).write (cs' := [oa, va', i64 now, .map (some mv)])
   rw [add_i64 _ 1 (by omega) (by omega), kv_some]
   exact ⟨ops.length - (i + 1), by omega, i + 1, va', vals ++ [val], view', by simp, rfl, by omega, hpart, by omega, by simp; omega, t6.re11 [2, 0, 3, 4, 5, 1, 6, 7, 8, 9, 10] rfl⟩
 · have hb : (err != 0) = true := by simp [herr]
   rw [if_neg herr] at hpart
   have hp : prepV st id ops now = (([], false), { st with lk := freeL id lk1 }) := by
    unfold prepV
    rw [if_neg (by simp [hov, ha])]
    simp only [hk1, hbl, ← hpart, Bool.false_eq_true, if_false, hlk1]
   rw [hp]
   have u1 : h11.rd b 1 = some a := by rw [rd_of t3.get 1]; rfl
   simp only [hb, if_true, u1, kv_some, ld2 (Sep.get (t3.re11 [9] rfl))]
   have hfew := hi.few_take hk1 (ops.map lockOf)
   have hlen := takeL_len id (ops.map lockOf) st.lk
   rw [hlk1] at hfew hlen
   rw [List.length_map] at hfew hlen
   have hnlk := hi.nlk
   refine cl_then (lock_Free hM hE9 id (t3.re11 [7, 0, 1, 2, 3, 4, 5, 6, 8, 9, 10] rfl) (by omega) (by omega)) ?_
   rintro r h12 ⟨_, t4⟩
   refine ⟨_, rfl, ?_⟩
   exact (mono_vlt (by omega) (Sep.closeVlt (k := k + i + 1) (st := ({ st with lk := freeL id lk1 } : VltM)) (t4.re11 [1, 3, 0, 5, 8, 10] rfl))).nilStrs
end Go.Abs
namespace Go.Abs
open Go
variable {sp : List (ByteArray × SpM)} {pt : List (IdM × PartM)} {now : Int} {view : List (ByteArray × Option SpM)} {k : Nat} {st : VltM} {id : IdM}
theorem sees_ne {n m : ByteArray} (h : n ≠ m) : lkp m (seesV sp n view).2 = lkp m view := by
 unfold seesV
 cases hk : Go.Abs.lkp n view with
 | none => simp [h]
 | some x => rfl
theorem sees_nodup {n : ByteArray} (h : (keysL view).Nodup) : (keysL (seesV sp n view).2).Nodup := by
 unfold seesV
 cases hk : Go.Abs.lkp n view with
 | none => exact nodup_ins h
 | some x => exact h
theorem does_ok {o : Oq} (he : (doesV sp pt now view o).2.1 = 0) : ∃ Y, (doesV sp pt now view o).2.2 = ins o.space Y (seesV sp o.space view).2 ∧
 (3 ≤ o.fn ∧ o.fn ≤ 5 → ∃ s, (seesV sp o.space view).1 = some s ∧ Y = some (s.act o now).2.2 ∧ (s.act o now).2.1 = 0) := by
 unfold doesV at he ⊢
 simp only at he ⊢
 by_cases h1 : o.fn = 1
 · simp only [if_pos h1] at he ⊢
   by_cases h2 : (seesV sp o.space view).1.isSome = true
   · rw [if_pos h2] at he; cases he
   · rw [if_neg h2] at he ⊢
     by_cases h3 : 16 ≤ countV sp pt (seesV sp o.space view).2
     · rw [if_pos h3] at he; cases he
     · rw [if_neg h3]
       exact ⟨_, rfl, fun h => by omega⟩
 · simp only [if_neg h1] at he ⊢
   cases hX : (seesV sp o.space view).1 with
   | none => rw [hX] at he; cases he
   | some s =>
    rw [hX] at he
    simp only at he ⊢
    by_cases h2 : o.fn = 2
    · rw [if_pos h2]
      exact ⟨_, rfl, fun h => by omega⟩
    · rw [if_neg h2] at he ⊢
      exact ⟨_, rfl, fun _ => ⟨s, rfl, rfl, he⟩⟩
structure VwOk (sp : List (ByteArray × SpM)) (done : List Oq) (view : List (ByteArray × Option SpM)) : Prop where
 nd : (keysL view).Nodup
 of : ∀ n x, lkp n view = some x → ∃ o ∈ done, o.space = n
 tab : ∀ n x, lkp n view = some x → (∀ o ∈ done, o.space = n → 3 ≤ o.fn ∧ o.fn ≤ 5) → ∃ s t, x = some s ∧ s.kind = 1 ∧ lkp n sp = some t ∧ t.kind = 1
theorem VwOk.nil : VwOk sp [] [] := ⟨by simp [keysL], by simp [lkp], by simp [lkp]⟩
theorem VwOk.step {done : List Oq} {o : Oq} (w : VwOk sp done view) (he : (doesV sp pt now view o).2.1 = 0) : VwOk sp (done ++ [o]) (doesV sp pt now view o).2.2 := by
 obtain ⟨Y, e, hY⟩ := does_ok he
 rw [e]
 refine ⟨nodup_ins (sees_nodup w.nd), fun n x hx => ?_, fun n x hx ht => ?_⟩
 · rw [lkp_ins] at hx
   by_cases h : o.space = n
   · exact ⟨o, by simp, h⟩
   · rw [if_neg h, sees_ne h] at hx
     obtain ⟨o', h1, h2⟩ := w.of n x hx
     exact ⟨o', by simp [h1], h2⟩
 · rw [lkp_ins] at hx
   by_cases h : o.space = n
   · rw [if_pos h] at hx
     cases hx
     obtain ⟨s, h1, h2, h3⟩ := hY (ht o (by simp) h)
     have h4 := act_tabM (ht o (by simp) h) h3
     unfold seesV at h1
     subst h
     cases hk : Go.Abs.lkp o.space view with
     | none =>
      rw [hk] at h1
      simp only at h1
      exact ⟨_, s, h2, by rw [act_kindM]; exact h4, h1, h4⟩
     | some x0 =>
      rw [hk] at h1
      simp only at h1
      obtain ⟨s', t, h5, h6, h7, h8⟩ := w.tab _ _ hk fun o' ho' => ht o' (by simp [ho'])
      exact ⟨_, t, h2, by rw [act_kindM]; exact h4, h7, h8⟩
   · rw [if_neg h, sees_ne h] at hx
     exact w.tab n x hx fun o' ho' => ht o' (by simp [ho'])
theorem part_ok : ∀ {l done : List Oq} {view : List (ByteArray × Option SpM)} {vals vals' : List ByteArray} {view' : List (ByteArray × Option SpM)}, partV sp pt now l view vals = some (vals', view') → VwOk sp done view →
 VwOk sp (done ++ l) view' ∧ vals'.length = vals.length + l.length
 | [], done, view, vals, vals', view', h, w => by
  simp only [partV, Option.some.injEq, Prod.mk.injEq] at h
  obtain ⟨rfl, rfl⟩ := h
  simpa using w
 | o :: l, done, view, vals, vals', view', h, w => by
  rw [partV_cons] at h
  by_cases he : (doesV sp pt now view o).2.1 = 0
  · rw [if_pos he] at h
    obtain ⟨h1, h2⟩ := part_ok h (w.step he)
    rw [List.append_assoc] at h1
    refine ⟨h1, ?_⟩
    simp only [List.length_append, List.length_cons, List.length_nil] at h2 ⊢
    omega
  · rw [if_neg he] at h
    cases h
theorem meet_self (a : KeyM) : meetK a a = true := by simp [meetK]
theorem meet_comm (a b : KeyM) : meetK a b = meetK b a := by
 have e1 : (decide (a.space = b.space)) = decide (b.space = a.space) := decide_eq_decide.2 ⟨Eq.symm, Eq.symm⟩
 have e2 : (decide (a.key = b.key)) = decide (b.key = a.key) := decide_eq_decide.2 ⟨Eq.symm, Eq.symm⟩
 unfold meetK
 rw [e1, e2, Bool.or_comm a.all b.all]
theorem not_blocked {ks : List KeyM} {lk : List (KeyM × IdM)} (h : blocked id ks lk = false) {e : KeyM × IdM} (he : e ∈ lk) {a : KeyM} (ha : a ∈ ks) (hm : meetK a e.1 = true) : e.2 = id := by
 by_cases hx : e.2 = id
 · exact hx
 · exfalso
   have : blocked id ks lk = true := List.any_eq_true.2 ⟨e, he, by
    simp only [ne_eq, hx, not_false_eq_true, decide_true, Bool.true_and]
    exact List.any_eq_true.2 ⟨a, ha, hm⟩⟩
   rw [h] at this
   cases this
theorem pt_ne (i : VInv k st) (hp : lkp id st.pt = none) {e : IdM × PartM} (he : e ∈ st.pt) : e.1 ≠ id := fun h => by
 have := lkp_of i.dpt (show (e.1, e.2) ∈ st.pt from he)
 rw [h, hp] at this
 cases this
theorem ks_not (i : VInv k st) (hp : lkp id st.pt = none) {ks : List KeyM} (hb : blocked id ks st.lk = false) {e : IdM × PartM} (he : e ∈ st.pt) {o : Oq} (ho : o ∈ e.2.ops) : lockOf o ∉ ks := fun hm =>
 pt_ne i hp he (not_blocked hb (lkp_mem (i.has e he o ho)) hm (meet_self _))
theorem inv_prep (i : VInv k st) (id : IdM) (ops : List Oq) (now : Int) : VInv (k + 8) (prepV st id ops now).2 := by
 have i8 := i.mono (Nat.le_add_right k 8)
 unfold prepV
 by_cases h0 : id ∈ st.ov ∨ allO ops = false
 · rw [if_pos h0]; exact i8
 rw [if_neg h0]
 have ha : allO ops = true := by
  cases h : allO ops with
  | true => rfl
  | false => exact absurd (.inr h) h0
 have hall := allF ha
 cases hp : lkp id st.pt with
 | some x => exact i8
 | none =>
 simp only
 cases hb : blocked id (ops.map lockOf) st.lk with
 | true => simp only [if_true]; exact i8
 | false =>
 simp only [Bool.false_eq_true, if_false]
 have hnl := takeL_len id (ops.map lockOf) st.lk
 rw [List.length_map] at hnl
 have hnlk := i.nlk
 have dtk := takeL_nodup id (ops.map lockOf) i.dlk
 have old : ∀ {e : KeyM × IdM}, e ∈ takeL id (ops.map lockOf) st.lk → (e.1 ∈ ops.map lockOf ∧ e.2 = id) ∨ (e.1 ∉ ops.map lockOf ∧ e ∈ st.lk) := fun {e} he => by
  have h1 := lkp_of dtk (show (e.1, e.2) ∈ _ from he)
  rw [takeL_lkp] at h1
  by_cases hk : e.1 ∈ ops.map lockOf
  · rw [if_pos hk] at h1
    exact .inl ⟨hk, (Option.some.inj h1).symm⟩
  · rw [if_neg hk] at h1
    exact .inr ⟨hk, lkp_mem h1⟩
 cases hv : partV st.sp st.pt now ops [] [] with
 | none =>
  simp only
  have sub : ∀ e ∈ freeL id (takeL id (ops.map lockOf) st.lk), e ∈ st.lk := fun e he => by
   obtain ⟨h1, h2⟩ := List.mem_filter.1 he
   rcases old h1 with ⟨_, h3⟩ | ⟨_, h3⟩
   · exact absurd h3 (of_decide_eq_true h2)
   · exact h3
  refine { i8 with nlk := ?_, dlk := free_nodup dtk, own := fun e he => i.own e (sub e he), has := fun e he o ho => ?_, apart := fun e he e' he' => i.apart e (sub e he) e' (sub e' he') }
  · have := List.length_filter_le (fun e : KeyM × IdM => decide (e.2 ≠ id)) (takeL id (ops.map lockOf) st.lk)
    have h2 : (freeL id (takeL id (ops.map lockOf) st.lk)).length ≤ (takeL id (ops.map lockOf) st.lk).length := this
    show (freeL id (takeL id (ops.map lockOf) st.lk)).length ≤ k + 8
    omega
  · show lkp (lockOf o) (freeL id (takeL id (ops.map lockOf) st.lk)) = some e.1
    rw [lkp_free dtk, takeL_lkp, if_neg (ks_not i hp hb he ho), i.has e he o ho]
    simp only
    rw [if_neg (pt_ne i hp he)]
 | some r =>
  obtain ⟨vals, vw⟩ := r
  simp only
  obtain ⟨w, hvl⟩ := part_ok (done := []) hv VwOk.nil
  rw [List.nil_append] at w
  have hmem : ∀ e ∈ ins id (⟨ops, vals, now, vw⟩ : PartM) st.pt, e ∈ st.pt ∨ e = (id, ⟨ops, vals, now, vw⟩) := fun e he => by
   rw [ins_new hp] at he
   rcases List.mem_append.1 he with he | he
   · exact .inl he
   · exact .inr (List.mem_singleton.1 he)
  refine ⟨i8.nsp, ?_, ?_, i.dsp, nodup_ins i.dpt, dtk, fun e he => ?_, fun e he => ?_, fun e he o ho => ?_, fun e he e' he' hm => ?_, fun e he => ?_, fun e he => ?_, fun e he x hx => ?_, fun e he x hx ht => ?_, i.zsp⟩
  · have := ins_len id (⟨ops, vals, now, vw⟩ : PartM) st.pt
    have h2 := i.npt
    show (ins id (⟨ops, vals, now, vw⟩ : PartM) st.pt).length ≤ k + 8
    omega
  · show (takeL id (ops.map lockOf) st.lk).length ≤ k + 8
    omega
  · rcases hmem e he with he | rfl
    · exact i.may e he
    · exact ha
  · show ∃ p, lkp e.2 (ins id (⟨ops, vals, now, vw⟩ : PartM) st.pt) = some p ∧ _
    rcases old he with ⟨h1, h2⟩ | ⟨h1, h2⟩
    · exact ⟨⟨ops, vals, now, vw⟩, by rw [lkp_ins, if_pos h2.symm], h1⟩
    · obtain ⟨p, h3, h4⟩ := i.own e h2
      refine ⟨p, ?_, h4⟩
      rw [lkp_ins, if_neg, h3]
      intro hc
      rw [← hc, hp] at h3
      cases h3
  · show lkp (lockOf o) (takeL id (ops.map lockOf) st.lk) = some e.1
    rw [takeL_lkp]
    rcases hmem e he with he | rfl
    · rw [if_neg (ks_not i hp hb he ho)]
      exact i.has e he o ho
    · rw [if_pos (List.mem_map.2 ⟨o, ho, rfl⟩)]
  · rcases old he with ⟨h1, h2⟩ | ⟨h1, h2⟩ <;> rcases old he' with ⟨h3, h4⟩ | ⟨h3, h4⟩
    · rw [h2, h4]
    · rw [h2, not_blocked hb h4 h1 hm]
    · rw [meet_comm] at hm
      rw [h4, not_blocked hb h2 h3 hm]
    · exact i.apart e h2 e' h4 hm
  · rcases hmem e he with he | rfl
    · exact i.dvw e he
    · exact w.nd
  · rcases hmem e he with he | rfl
    · exact i.val8 e he
    · show vals.length ≤ 8
      rw [hvl]
      simp only [List.length_nil]
      omega
  · rcases hmem e he with he | rfl
    · exact i.vw e he x hx
    · exact w.of x.1 x.2 (lkp_of w.nd hx)
  · rcases hmem e he with he | rfl
    · exact i.tab e he x hx ht
    · exact w.tab x.1 x.2 (lkp_of w.nd hx) ht
end Go.Abs
namespace Go.Abs
open Go
variable {sp : List (ByteArray × SpM)} {now : Int} {view : List (ByteArray × Option SpM)} {k : Nat} {st : VltM} {id : IdM}
theorem writes_kind (n : ByteArray) (v : SpM) : ∀ (l : List Oq) (s : SpM), (writesV n v l s).kind = s.kind
 | [], s => rfl
 | o :: l, s => by
  simp only [writesV]
  split
  · rw [writes_kind n v l]
    split <;> rfl
  · exact writes_kind n v l s
def laysO (p : PartM) (all : Bool) (name : ByteArray) (x : Option SpM) (t : Option SpM) : Option SpM :=
 match all, x with
 | true, none => none
 | true, some s => some s
 | false, some s => t.map (writesV name s p.ops)
 | false, none => t
theorem lays_nodup (p : PartM) (all : Bool) (name : ByteArray) (x : Option SpM) (h : (keysL sp).Nodup) : (keysL (laysV p all name x sp)).Nodup := by
 cases all <;> cases x <;> simp only [laysV]
 · exact h
 · split
   · exact nodup_ins h
   · exact h
 · exact nodup_rmv h
 · exact nodup_ins h
theorem lays_len (p : PartM) (all : Bool) (name : ByteArray) (x : Option SpM) : (laysV p all name x sp).length ≤ sp.length + 1 := by
 cases all <;> cases x <;> simp only [laysV]
 · omega
 · split
   · exact ins_len _ _ _
   · omega
 · have := rmv_len name sp; omega
 · exact ins_len _ _ _
theorem lays_lkp (p : PartM) (all : Bool) (name : ByteArray) (x : Option SpM) (h : (keysL sp).Nodup) (n : ByteArray) : lkp n (laysV p all name x sp) = if name = n then laysO p all name x (lkp name sp) else lkp n sp := by
 cases all <;> cases x <;> simp only [laysV, laysO]
 · by_cases e : name = n
   · rw [if_pos e, e]
   · rw [if_neg e]
 · cases hk : Go.Abs.lkp name sp with
   | none =>
    simp only [Option.map_none]
    by_cases e : name = n
    · rw [if_pos e, ← e, hk]
    · rw [if_neg e]
   | some t =>
    simp only [Option.map_some]
    rw [lkp_ins]
 · rw [lkp_rmv h]
 · rw [lkp_ins]
def laysA (p : PartM) (al : ByteArray → Bool) (l : List (ByteArray × Option SpM)) (sp : List (ByteArray × SpM)) : List (ByteArray × SpM) := l.foldl (fun sp e => laysV p (al e.1) e.1 e.2 sp) sp
theorem laysA_nodup (p : PartM) (al : ByteArray → Bool) : ∀ (l : List (ByteArray × Option SpM)) {sp : List (ByteArray × SpM)}, (keysL sp).Nodup → (keysL (laysA p al l sp)).Nodup
 | [], _, h => h
 | e :: l, _, h => laysA_nodup p al l (lays_nodup _ _ _ _ h)
theorem laysA_len (p : PartM) (al : ByteArray → Bool) : ∀ (l : List (ByteArray × Option SpM)) (sp : List (ByteArray × SpM)), (laysA p al l sp).length ≤ sp.length + l.length
 | [], _ => by simp [laysA]
 | e :: l, sp => by
  have h1 := laysA_len p al l (laysV p (al e.1) e.1 e.2 sp)
  have h2 := lays_len (sp := sp) p (al e.1) e.1 e.2
  have h3 : laysA p al (e :: l) sp = laysA p al l (laysV p (al e.1) e.1 e.2 sp) := rfl
  rw [h3, List.length_cons]
  omega
theorem laysA_lkp (p : PartM) (al : ByteArray → Bool) : ∀ (l : List (ByteArray × Option SpM)) {sp : List (ByteArray × SpM)}, (keysL sp).Nodup → (keysL l).Nodup → ∀ n, lkp n (laysA p al l sp) = match lkp n l with | none => lkp n sp | some x => laysO p (al n) n x (lkp n sp)
 | [], _, _, _, n => rfl
 | (a, x) :: l, sp, h, hl, n => by
  have hl' : a ∉ keysL l ∧ (keysL l).Nodup := List.nodup_cons.1 hl
  have h3 : laysA p al ((a, x) :: l) sp = laysA p al l (laysV p (al a) a x sp) := rfl
  rw [h3, laysA_lkp p al l (lays_nodup _ _ _ _ h) hl'.2, lays_lkp _ _ _ _ h]
  simp only [lkp]
  by_cases e : a = n
  · subst e
    rw [lkp_none.2 hl'.1]
    simp only [if_true]
  · simp only [if_neg e]
theorem laysA_perm (p : PartM) (al : ByteArray → Bool) {l l' : List (ByteArray × Option SpM)} (hs : (keysL sp).Nodup) (hl : (keysL l).Nodup) (hp : l.Perm l') : (laysA p al l sp).Perm (laysA p al l' sp) := by
 have hl' := (keys_perm hp).nodup_iff.1 hl
 exact perm_of_lkp (laysA_nodup p al l hs) (laysA_nodup p al l' hs) fun n => by rw [laysA_lkp p al l hs hl, laysA_lkp p al l' hs hl', lkp_perm hp hl]
def allOf (lk : List (KeyM × IdM)) (id : IdM) (n : ByteArray) : Bool := lk.any fun x => decide (x.2 = id) && decide (x.1.space = n) && x.1.all
theorem decV_eq (st : VltM) (id : IdM) (yes : Bool) : decV st id yes = if id ∈ st.ov then (false, st)
 else match lkp id st.pt with
 | none => (true, { st with ov := id :: st.ov })
 | some p => (true, ⟨if yes then laysA p (allOf st.lk id) p.view st.sp else st.sp, freeL id st.lk, rmv id st.pt, id :: st.ov⟩) := rfl
theorem view8 (i : VInv k st) {e : IdM × PartM} (he : e ∈ st.pt) : e.2.view.length ≤ 8 := by
 have h1 := nodup_sub_len (i.dvw e he) (m := e.2.ops.map (·.space)) fun n hn => by
  obtain ⟨x, hx, rfl⟩ := List.mem_map.1 hn
  obtain ⟨o, h1, h2⟩ := i.vw e he x hx
  exact List.mem_map.2 ⟨o, h1, h2⟩
 have h2 := i.ops8 e he
 rw [List.length_map] at h1
 have : (keysL e.2.view).length = e.2.view.length := by simp [keysL]
 omega
theorem mem_rmv {κ α : Type} [DecidableEq κ] {k : κ} {e : κ × α} : ∀ {l : List (κ × α)}, (keysL l).Nodup → e ∈ rmv k l → e ∈ l ∧ e.1 ≠ k := fun {l} hn he => by
 have h1 := lkp_of (nodup_rmv hn) (show (e.1, e.2) ∈ rmv k l from he)
 rw [lkp_rmv hn] at h1
 by_cases h : k = e.1
 · rw [if_pos h] at h1; cases h1
 · rw [if_neg h] at h1
   exact ⟨lkp_mem h1, fun hc => h hc.symm⟩
theorem lock_space (o : Oq) : (lockOf o).space = o.space := by unfold lockOf; split <;> rfl
theorem lock_tab {o : Oq} (h : (lockOf o).all = false) : 3 ≤ o.fn ∧ o.fn ≤ 5 := by
 unfold lockOf at h
 by_cases h1 : 3 ≤ o.fn ∧ o.fn ≤ 5
 · exact h1
 · rw [if_neg h1] at h; cases h
theorem all_alone (i : VInv k st) {n : ByteArray} (ha : allOf st.lk id n = true) {e : IdM × PartM} (he : e ∈ st.pt) {o : Oq} (ho : o ∈ e.2.ops) (hs : o.space = n) : e.1 = id := by
 obtain ⟨x, hx, hp⟩ := List.any_eq_true.1 ha
 simp only [Bool.and_eq_true, decide_eq_true_eq] at hp
 obtain ⟨⟨h1, h2⟩, h3⟩ := hp
 have := i.apart _ (lkp_mem (i.has e he o ho)) x hx (by
  simp only [meetK, h3, Bool.or_true, Bool.true_or, Bool.and_true, decide_eq_true_eq]
  rw [lock_space, hs, h2])
 rw [h1] at this
 exact this
theorem not_all (i : VInv k st) {e : IdM × PartM} (he : e ∈ st.pt) {n : ByteArray} (ha : allOf st.lk e.1 n = false) : ∀ o ∈ e.2.ops, o.space = n → 3 ≤ o.fn ∧ o.fn ≤ 5 := fun o ho hs => by
 refine lock_tab ?_
 cases hal : (lockOf o).all with
 | false => rfl
 | true =>
  exfalso
  have : allOf st.lk e.1 n = true := List.any_eq_true.2 ⟨_, lkp_mem (i.has e he o ho), by
   simp only [decide_true, Bool.true_and, hal, Bool.and_true, decide_eq_true_eq]
   rw [lock_space, hs]⟩
  rw [ha] at this
  cases this
theorem inv_dec (i : VInv k st) (id : IdM) (yes : Bool) : VInv (k + 8) (decV st id yes).2 := by
 have i8 := i.mono (Nat.le_add_right k 8)
 rw [decV_eq]
 by_cases h0 : id ∈ st.ov
 · rw [if_pos h0]; exact i8
 rw [if_neg h0]
 cases hp : lkp id st.pt with
 | none => exact { i8 with }
 | some p =>
  simp only
  have hpm := lkp_mem hp
  have sub : ∀ e ∈ freeL id st.lk, e ∈ st.lk ∧ e.2 ≠ id := fun e he => by
   obtain ⟨h1, h2⟩ := List.mem_filter.1 he
   exact ⟨h1, of_decide_eq_true h2⟩
  have hnd : (keysL (if yes = true then laysA p (allOf st.lk id) p.view st.sp else st.sp)).Nodup := by
   split
   · exact laysA_nodup _ _ _ i.dsp
   · exact i.dsp
  refine ⟨?_, ?_, ?_, hnd, nodup_rmv i.dpt, free_nodup i.dlk, fun e he => i.may e (mem_rmv i.dpt he).1, fun e he => ?_, fun e he o ho => ?_, fun e he e' he' => i.apart e (sub e he).1 e' (sub e' he').1,
   fun e he => i.dvw e (mem_rmv i.dpt he).1, fun e he => i.val8 e (mem_rmv i.dpt he).1, fun e he => i.vw e (mem_rmv i.dpt he).1, fun e he x hx ht => ?_, fun n hn => ?_⟩
  · have h1 := laysA_len p (allOf st.lk id) p.view st.sp
    have h2 := view8 i hpm
    have h3 := i.nsp
    have h2 : p.view.length ≤ 8 := h2
    show (if yes = true then laysA p (allOf st.lk id) p.view st.sp else st.sp).length ≤ k + 8
    split <;> omega
  · have h1 := rmv_len id st.pt
    have h2 := i.npt
    show (rmv id st.pt).length ≤ k + 8
    omega
  · have h1 : (freeL id st.lk).length ≤ st.lk.length := List.length_filter_le _ _
    have h2 := i.nlk
    show (freeL id st.lk).length ≤ k + 8
    omega
  · obtain ⟨h1, h2⟩ := sub e he
    obtain ⟨q, h3, h4⟩ := i.own e h1
    refine ⟨q, ?_, h4⟩
    show lkp e.2 (rmv id st.pt) = some q
    rw [lkp_rmv i.dpt, if_neg fun hc => h2 hc.symm, h3]
  · obtain ⟨h1, h2⟩ := mem_rmv i.dpt he
    show lkp (lockOf o) (freeL id st.lk) = some e.1
    rw [lkp_free i.dlk, i.has e h1 o ho]
    simp only
    rw [if_neg h2]
  · obtain ⟨h1, h2⟩ := mem_rmv i.dpt he
    obtain ⟨s, t, h3, h4, h5, h6⟩ := i.tab e h1 x hx ht
    show ∃ s t, x.2 = some s ∧ s.kind = 1 ∧ lkp x.1 (if yes = true then laysA p (allOf st.lk id) p.view st.sp else st.sp) = some t ∧ t.kind = 1
    cases yes with
    | false => exact ⟨s, t, h3, h4, h5, h6⟩
    | true =>
     simp only [if_true]
     rw [laysA_lkp p _ _ i.dsp (i.dvw _ hpm)]
     cases hv : lkp x.1 p.view with
     | none => exact ⟨s, t, h3, h4, h5, h6⟩
     | some y =>
      simp only
      obtain ⟨o, ho, hs⟩ := i.vw e h1 x hx
      have hal : allOf st.lk id x.1 = false := by
       cases ha : allOf st.lk id x.1 with
       | false => rfl
       | true => exact absurd (all_alone i ha h1 ho hs) h2
      rw [hal, h5]
      cases y with
      | none => exact ⟨s, t, h3, h4, rfl, h6⟩
      | some z => exact ⟨s, _, h3, h4, rfl, by rw [writes_kind]; exact h6⟩
  · have hn : n ∈ keysL (if yes = true then laysA p (allOf st.lk id) p.view st.sp else st.sp) := hn
    cases yes with
    | false => exact i.zsp n hn
    | true =>
     simp only [if_true] at hn
     have h1 : lkp n (laysA p (allOf st.lk id) p.view st.sp) ≠ none := fun h => lkp_none.1 h hn
     rw [laysA_lkp p _ _ i.dsp (i.dvw _ hpm)] at h1
     cases hv : lkp n p.view with
     | none =>
      rw [hv] at h1
      by_cases hm : n ∈ keysL st.sp
      · exact i.zsp n hm
      · exact absurd (lkp_none.2 hm) h1
     | some y =>
      obtain ⟨o, ho, hs⟩ := i.vw _ hpm _ (lkp_mem hv)
      have hs : o.space = n := hs
      rw [← hs]
      exact (mayF ((allF (i.may _ hpm)).2.2 o ho)).sp.2
end Go.Abs
namespace Go.Abs
open Go
variable {E : FE} {F : Fr} {h : AHeap} {L : List Pl} {k : Nat} {w : V} {s : SpM}
theorem tab_get (E : FE) (hs : s.kind = 1) (z : Sep F h (plSpM k w s :: L)) : ∃ b tp, w = ptr b 0 ∧ h.rd b 1 = some tp ∧ (∀ key q, hitP key s.pairs = some q → q.val.size ≤ BB) ∧
 ∀ key, cl (Go.Abs.F.table_Table_Get E) [tp, str key] h fun r h' => h' = h ∧ r = .tuple #[str (match hitP key s.pairs with | some q => q.val | none => ⟨#[]⟩), .bool (hitP key s.pairs).isSome] := by
 obtain ⟨S, h1, h2, h3, z1⟩ := z.openSpM
 obtain ⟨f, q, kk⟩ := z1.head
 have q : SpS h f w S := q
 cases S with
 | qu a b i l => exact absurd h3.1 (by rw [hs]; decide)
 | to l g => exact absurd h3.1 (by rw [hs]; decide)
 | tab g =>
  obtain ⟨pt, q⟩ := q
  obtain ⟨b, f', rfl, rfl, hg, hA, up⟩ := q.open
  have hA : Tab h f' pt g := hA
  obtain ⟨_, tg, hn, _⟩ := h3
  refine ⟨b, pt, rfl, by rw [rd_of hg 1]; rfl, fun key q hq => ?_, fun key => ?_⟩
  · have h4 := tg.same key
    rw [hq, Option.map_some] at h4
    obtain ⟨e, he, hv⟩ := getE_mem h4
    obtain ⟨x, hx, hz⟩ := h1.1 e he
    rw [hv] at hx
    cases hx
    exact hz
  · refine cl_then (table_Get hA (fun e he => by obtain ⟨s, h, _⟩ := h1.1 e he; exact ⟨s, h⟩) key) ?_
    rintro r h' ⟨rfl, rfl⟩
    refine ⟨rfl, ?_⟩
    rw [tg.same key]
    cases hitP key s.pairs <;> rfl
theorem tab_put (E : FE) (hs : s.kind = 1) (key val : ByteArray) (hz : key.size ≤ maxLen ∧ val.size ≤ BB) (z : Sep F h (plSpM k w s :: L)) : ∃ b tp, w = ptr b 0 ∧ h.rd b 1 = some tp ∧
 cl (Go.Abs.F.table_Table_Put E) [tp, str key, str val] h fun r h' => Sep F h' (plSpM (k + 1) w { s with pairs := putP ⟨key, val, 0⟩ s.pairs } :: L) := by
 obtain ⟨S, h1, h2, h3, z1⟩ := z.openSpM
 obtain ⟨f, q, kk⟩ := z1.head
 have q : SpS h f w S := q
 cases S with
 | qu a b i l => exact absurd h3.1 (by rw [hs]; decide)
 | to l g => exact absurd h3.1 (by rw [hs]; decide)
 | tab g =>
  obtain ⟨pt, q⟩ := q
  obtain ⟨b, f', rfl, rfl, hg, hA, up⟩ := q.open
  have hA : Tab h f' pt g := hA
  refine ⟨b, pt, rfl, by rw [rd_of hg 1]; rfl, ?_⟩
  refine cl_then (table_Put hA key (str val)) ?_
  rintro r h' ⟨_, c, t2, m2⟩
  obtain ⟨q1, q2⟩ := up (plTab pt (putE key (str val) c g)) m2 t2
  have hst := h1.step ⟨4, ⟨#[]⟩, key, val, 0⟩ 0 c hz
  obtain ⟨_, _, a3⟩ := act_sim h3 h1 ⟨4, ⟨#[]⟩, key, val, 0⟩ 0 c
  have e1 : ((SpSt.tab g).act ⟨4, ⟨#[]⟩, key, val, 0⟩ 0 c).2.2 = .tab (putE key (str val) c g) := rfl
  have e2 : (s.act ⟨4, ⟨#[]⟩, key, val, 0⟩ 0).2.2 = { s with pairs := putP ⟨key, val, 0⟩ s.pairs } := by
   unfold SpM.act
   rw [if_pos hs, if_pos (by simp), if_pos rfl]
  rw [e1] at hst a3
  rw [e2] at a3
  exact Sep.closeSpM hst trivial a3 (kk (plSpS (ptr b 0) (.tab (putE key (str val) c g))) q2 ⟨pt, q1⟩)
theorem tab_del (E : FE) (hs : s.kind = 1) (key : ByteArray) (hz : key.size ≤ maxLen) (z : Sep F h (plSpM k w s :: L)) : ∃ b tp, w = ptr b 0 ∧ h.rd b 1 = some tp ∧
 cl (Go.Abs.F.table_Table_Del E) [tp, str key] h fun r h' => Sep F h' (plSpM (k + 1) w { s with pairs := delP key s.pairs } :: L) := by
 obtain ⟨S, h1, h2, h3, z1⟩ := z.openSpM
 obtain ⟨f, q, kk⟩ := z1.head
 have q : SpS h f w S := q
 cases S with
 | qu a b i l => exact absurd h3.1 (by rw [hs]; decide)
 | to l g => exact absurd h3.1 (by rw [hs]; decide)
 | tab g =>
  obtain ⟨pt, q⟩ := q
  obtain ⟨b, f', rfl, rfl, hg, hA, up⟩ := q.open
  have hA : Tab h f' pt g := hA
  refine ⟨b, pt, rfl, by rw [rd_of hg 1]; rfl, ?_⟩
  refine cl_then (table_Del hA (fun e he => by obtain ⟨s, h, _⟩ := h1.1 e he; exact ⟨s, h⟩) key) ?_
  rintro r h' ⟨_, t2, m2⟩
  obtain ⟨q1, q2⟩ := up (plTab pt (delE key g)) m2 t2
  have hst := h1.step ⟨5, ⟨#[]⟩, key, ⟨#[]⟩, 0⟩ 0 0 ⟨hz, (by decide : (⟨#[]⟩ : ByteArray).size ≤ BB)⟩
  obtain ⟨_, _, a3⟩ := act_sim h3 h1 ⟨5, ⟨#[]⟩, key, ⟨#[]⟩, 0⟩ 0 0
  have e1 : ((SpSt.tab g).act ⟨5, ⟨#[]⟩, key, ⟨#[]⟩, 0⟩ 0 0).2.2 = .tab (delE key g) := rfl
  have e2 : (s.act ⟨5, ⟨#[]⟩, key, ⟨#[]⟩, 0⟩ 0).2.2 = { s with pairs := delP key s.pairs } := by
   unfold SpM.act
   rw [if_pos hs, if_pos (by simp), if_neg (show ¬ ((5 : Int) = 4) by decide), if_pos rfl]
  rw [e1] at hst a3
  rw [e2] at a3
  exact Sep.closeSpM hst trivial a3 (kk (plSpS (ptr b 0) (.tab (delE key g))) q2 ⟨pt, q1⟩)
def wrO (n : ByteArray) (v : SpM) (o : Oq) (s : SpM) : SpM :=
 if o.space = n ∧ (o.fn = 4 ∨ o.fn = 5) then (match hitP o.key v.pairs with | some q => { s with pairs := putP ⟨o.key, q.val, 0⟩ s.pairs } | none => { s with pairs := delP o.key s.pairs }) else s
theorem writes_cons (n : ByteArray) (v : SpM) (o : Oq) (l : List Oq) (s : SpM) : writesV n v (o :: l) s = writesV n v l (wrO n v o s) := by
 simp only [writesV, wrO]
 split <;> rfl
theorem writes_snoc (n : ByteArray) (v : SpM) (o : Oq) : ∀ (l : List Oq) (s : SpM), writesV n v (l ++ [o]) s = wrO n v o (writesV n v l s)
 | [], s => by rw [List.nil_append, writes_cons]; rfl
 | a :: l, s => by rw [List.cons_append, writes_cons, writes_snoc n v o l, writes_cons]
theorem ins_ins {κ α : Type} [DecidableEq κ] (k : κ) (x y : α) : ∀ l : List (κ × α), ins k y (ins k x l) = ins k y l
 | [] => by simp [ins]
 | (a, u) :: l => by
  by_cases h : a = k
  · simp [ins, h]
  · simp [ins, h, ins_ins k x y l]
def onN (n : ByteArray) (l : List Oq) : Nat := (l.filter fun o => decide (o.space = n)).length
theorem onN_snoc (n : ByteArray) (l : List Oq) (o : Oq) : onN n (l ++ [o]) = onN n l + if o.space = n then 1 else 0 := by
 unfold onN
 rw [List.filter_append, List.length_append]
 by_cases h : o.space = n <;> simp [h]
theorem onN_cons (n : ByteArray) (l : List Oq) (o : Oq) : onN n (o :: l) = (if o.space = n then 1 else 0) + onN n l := by
 unfold onN
 by_cases h : o.space = n
 · simp [h]; omega
 · simp [h]
theorem onN_sum : ∀ (l : List Oq) {ns : List ByteArray}, ns.Nodup → (ns.map fun n => onN n l).sum ≤ l.length
 | [], ns, _ => by
  have : (ns.map fun n => onN n []).sum = 0 := by
   induction ns with
   | nil => rfl
   | cons a t ih => simp_all [onN]
  omega
 | o :: l, ns, h => by
  have ih := onN_sum l h
  have h1 : ∀ ns : List ByteArray, ns.Nodup → (ns.map fun n => onN n (o :: l)).sum ≤ 1 + (ns.map fun n => onN n l).sum ∧ (o.space ∉ ns → (ns.map fun n => onN n (o :: l)).sum = (ns.map fun n => onN n l).sum) := by
   intro ns
   induction ns with
   | nil => intro _; simp
   | cons a t ih =>
    intro hnd
    obtain ⟨h1, h2⟩ := List.nodup_cons.1 hnd
    obtain ⟨i1, i2⟩ := ih h2
    simp only [List.map_cons, List.sum_cons, onN_cons]
    by_cases e : o.space = a
    · have := i2 (by rw [e]; exact h1)
      rw [if_pos e]
      refine ⟨?_, fun hn => absurd (by simp [e]) hn⟩
      simp only [onN_cons] at this
      omega
    · rw [if_neg e]
      simp only [onN_cons] at i1 i2
      refine ⟨by omega, fun hn => ?_⟩
      have := i2 fun hm => hn (by simp [hm])
      omega
  have := (h1 ns h).1
  rw [List.length_cons]
  omega
end Go.Abs
namespace Go.Abs
open Go
variable {E : FE} {F : Fr} {h : AHeap} {L : List Pl} {k : Nat}
theorem look_open {mv clk : Nat} {t : List (Et ByteArray (Option SpM))} {view : List (ByteArray × Option SpM)} (q : OkE t clk view) {e : Et ByteArray (Option SpM)} (he : e ∈ t) (s : Sep F h (plMap mv (t.map (Et.m kdStr)) clk :: L)) :
 lookupD (some (.string, (some (.pointer none)))) (.map (some mv)) (str e.k) false h = some e.v := by
 have g := s.mapGet
 rw [map_meg] at g
 have h1 := lookup_G kdStr (z := nil) g e.k false
 have hn : (keysG (t.map Et.g)).Nodup := by
  rw [keysG_g, ← absE_keys]
  exact q.ndt
 have h2 : getG e.k (t.map Et.g) = some e.v := getG_of (e := e.g) hn (List.mem_map.2 ⟨e, he, rfl⟩)
 rw [h2] at h1
 exact h1
theorem skip_in {h3 : AHeap} {bo : Nat} {fn : Int} (r0 : h3.rd bo 0 = some (i64 fn)) (hf : fn = 4 ∨ fn = 5) {X : V → Prop} (hX : X (.bool false)) :
 kv (gdV (.bool false) false (fieldAddrD (some 0) (ptr bo 0))) fun v33 => kv (gdV (.bool false) false (ldD .one v33 h3)) fun v34 => kv (gdV (.bool false) false (binD .bad .neq true v34 (.int .i64 4) h3)) fun v35 => kv (gdV (.bool false) false (some v35)) fun v36 =>
  kv (gdV v36 true (fieldAddrD (some 0) (ptr bo 0))) fun v37 => kv (gdV v36 true (ldD .one v37 h3)) fun v38 => kv (gdV v36 true (binD .bad .neq true v38 (.int .i64 5) h3)) fun v39 => kv (gdV (.bool false) false (pickV v36 v39 (.bool false))) fun v40 => kv (pickV (.bool false) (.bool true) v40) X := by
 rcases hf with rfl | rfl <;> simpa [gdV_bool, gdV_gone, pickV_bool, r0] using hX
theorem skip_out {h3 : AHeap} {bo : Nat} {fn : Int} (r0 : h3.rd bo 0 = some (i64 fn)) (b : Bool) (hf : b = true ∨ ¬ (fn = 4 ∨ fn = 5)) {X : V → Prop} (hX : X (.bool true)) :
 kv (gdV (.bool b) false (fieldAddrD (some 0) (ptr bo 0))) fun v33 => kv (gdV (.bool b) false (ldD .one v33 h3)) fun v34 => kv (gdV (.bool b) false (binD .bad .neq true v34 (.int .i64 4) h3)) fun v35 => kv (gdV (.bool b) false (some v35)) fun v36 =>
  kv (gdV v36 true (fieldAddrD (some 0) (ptr bo 0))) fun v37 => kv (gdV v36 true (ldD .one v37 h3)) fun v38 => kv (gdV v36 true (binD .bad .neq true v38 (.int .i64 5) h3)) fun v39 => kv (gdV (.bool b) false (pickV v36 v39 (.bool false))) fun v40 => kv (pickV (.bool b) (.bool true) v40) X := by
 cases b with
 | true => simpa [gdV_bool, gdV_gone, pickV_bool] using hX
 | false =>
  have h1 : ¬ (fn = 4 ∨ fn = 5) := by simpa using hf
  have h4 : (fn != 4) = true := by simp; omega
  have h5 : (fn != 5) = true := by simp; omega
  simpa [gdV_bool, gdV_gone, pickV_bool, r0, h4, h5] using hX
theorem mono_holeS {k k' : Nat} (hk : k ≤ k') (n0 : ByteArray) (v0 : V) : ∀ (F : Fr) (h : AHeap) (L : List Pl) (n : ByteArray) (v : V) (x : SpM), Sep F h (holeP n0 v0 (spV k) n v x :: L) → Sep F h (holeP n0 v0 (spV k') n v x :: L) := fun F h L n v x s => by
 by_cases e : n = n0
 · simp only [holeP, if_pos e] at s ⊢; exact s
 · simp only [holeP, if_neg e] at s ⊢; exact mono_sp hk _ _ _ _ _ _ s
theorem vault_lays {pv pp ms mp mv clk : Nat} {a c oa va : V} {p : PartM} {sp : List (ByteArray × SpM)} {t : List (Et ByteArray (Option SpM))} (all : Bool) {e : Et ByteArray (Option SpM)} (he : e ∈ t) (q : OkE t clk p.view)
 (ht : all = false → ∃ s t0, e.x = some s ∧ s.kind = 1 ∧ lkp e.k sp = some t0 ∧ t0.kind = 1) (hz : ∀ o ∈ p.ops, o.key.size ≤ maxLen) (hl : p.ops.length ≤ 8)
 (s : Sep F h (vwV k e.k e.v e.x :: plGM kdStr (spV k) ms sp :: plMap mv (t.map (Et.m kdStr)) clk :: plBox pv [.map (some ms), a, .map (some mp), c] 4 :: plBox pp [oa, va, i64 p.now, .map (some mv)] 4 :: plOps oa p.ops :: L)) :
 cl (Go.Abs.F.vault_Vault_lays E) [ptr pv 0, ptr pp 0, str e.k, .bool all] h fun r h' =>
  Sep F h' (plGM kdStr (spV (k + onN e.k p.ops)) ms (laysV p all e.k e.x sp) :: plMap mv (t.map (Et.m kdStr)) clk :: plBox pv [.map (some ms), a, .map (some mp), c] 4 :: plBox pp [oa, va, i64 p.now, .map (some mv)] 4 :: plOps oa p.ops :: L) := by
 refine cl_of ?_
 have r3 : h.rd pp 3 = some (.map (some mv)) := by rw [rd_of (Sep.get (s.re6 [4] rfl)) 3]; rfl
 have r0 : h.rd pv 0 = some (.map (some ms)) := by rw [rd_of (Sep.get (s.re6 [3] rfl)) 0]; rfl
 have hlk := look_open q he s.drop.drop
 simp only [Go.Abs.F.vault_Vault_lays, aNil_ptr, fieldAddr_ptr, kv_some, ld_one, Nat.zero_add, r3, r0, hlk, gdV_bool]
 cases all with
 | true =>
  have nn := Sep.eqView (k := k) (n := e.k) s true
  simp only [if_true, kv_some, nn, pickV_bool, ifV_bool]
  cases hx : e.x with
  | none =>
   rw [hx] at s
   simp only [Option.isNone_none, if_true]
   obtain ⟨h2, e2, s2⟩ := Sep.delM (D := kdStr) (A := spV k) (k := e.k) (z := nil) s.drop
   have e2 : deleteD (some (.string, (some (.pointer none)))) (.map (some ms)) (str e.k) h = some h2 := e2
   rw [e2, kH_some]
   exact Sep.monoM (mono_sp (Nat.le_add_right _ _)) s2
  | some x =>
   rw [hx] at s
   simp only [Option.isNone_some, Bool.false_eq_true, if_false]
   obtain ⟨h2, e2, s2⟩ := Sep.insM (D := kdStr) (A := spV k) (k := e.k) (v := e.v) (x := x) (z := nil) s.up1
   have e2 : mapUpdateD (some (.string, (some (.pointer none)))) (.map (some ms)) (str e.k) e.v h = some h2 := e2
   rw [e2, kH_some]
   exact Sep.monoM (mono_sp (Nat.le_add_right _ _)) s2
 | false =>
  obtain ⟨x, t0, hx, hxk, ht0, htk⟩ := ht rfl
  rw [hx] at s ⊢
  generalize e.v = ev at s hlk ⊢
  have hlays : laysV p false e.k (some x) sp = ins e.k (writesV e.k x p.ops t0) sp := by simp only [laysV, ht0]
  rw [hlays]
  have q0 : h.rd pp 0 = some oa := by rw [rd_of (Sep.get (s.re6 [4] rfl)) 0]; rfl
  obtain ⟨f, q1, _⟩ := Sep.head (s.re6 [5] rfl)
  have q1 : SlE dOp h f oa p.ops := q1
  simp only [Bool.false_eq_true, if_false, kv_some, pickV_bool, ifV_bool, q0, q1.len]
  rw [← ins_same ht0] at s
  refine ⟨fun n vs h' => ∃ i : Nat, vs = [i64 i] ∧ n = p.ops.length - i ∧ i ≤ p.ops.length ∧
   Sep F h' (plSpM k ev x :: plGM kdStr (spV (k + onN e.k (p.ops.take i))) ms (ins e.k (writesV e.k x (p.ops.take i) t0) sp) :: plMap mv (t.map (Et.m kdStr)) clk :: plBox pv [.map (some ms), a, .map (some mp), c] 4 :: plBox pp [oa, va, i64 p.now, .map (some mv)] 4 :: plOps oa p.ops :: L),
   p.ops.length, ⟨0, rfl, by omega, by omega, s⟩, ?_⟩
  clear s r0 q0 q1 hlk r3
  rintro n e0 h1 ⟨i, he0, rfl, hi, s1⟩
  simp only [List.cons.injEq, and_true] at he0
  simp only [he0, bin_lss, kv_some, ifV_bool, decide_eq_true_eq]
  rcases Nat.lt_or_ge i p.ops.length with hxi | hxi
  case inr =>
   rw [if_neg (show ¬ ((i : Nat) : Int) < (p.ops.length : Nat) by omega)]
   rw [List.take_of_length_le hxi] at s1
   exact s1.drop
  rw [if_pos (show ((i : Nat) : Int) < (p.ops.length : Nat) by omega)]
  obtain ⟨f1, q1, _⟩ := Sep.head (s1.re6 [5] rfl)
  have q1 : SlE dOp h1 f1 oa p.ops := q1
  have hg : p.ops[i]? = some p.ops[i] := List.getElem?_eq_getElem hxi
  obtain ⟨cb, i1, i2⟩ := q1.ld hg
  have i1 : indexAddrD (.slice 5) oa (i64 i) = _ := i1
  have i2 : ldD (.agg 5) _ h1 = some (p.ops[i]).agg := i2
  have hoz := hz _ (List.getElem_mem hxi)
  have htk1 : p.ops.take (i + 1) = p.ops.take i ++ [p.ops[i]] := by rw [List.take_add_one, hg]; rfl
  generalize p.ops[i] = o at i2 hoz htk1
  rw [i1, kv_some, i2, kv_some, newO0, kP_some]
  have s2 := s1.box ((⟨0, ⟨#[]⟩, ⟨#[]⟩, ⟨#[]⟩, 0⟩ : Oq).cells) 5
  clear s1 q1
  rw [st5 s2.get, kH_some]
  have s3 := s2.write (cs' := o.cells)
  clear s2
  generalize AHeap.put _ _ _ = h3 at s3 ⊢
  generalize h1.next = bo at s3 ⊢
  have r0 : h3.rd bo 0 = some (i64 o.fn) := by rw [rd_of s3.get 0]; rfl
  have r1 : h3.rd bo 1 = some (str o.space) := by rw [rd_of s3.get 1]; rfl
  have r2 : h3.rd bo 2 = some (str o.key) := by rw [rd_of s3.get 2]; rfl
  rw [fieldAddr_ptr, kv_some, ld_one, Nat.zero_add, r1, kv_some, str_neq, kv_some]
  have nextR : ∀ {h' : AHeap}, Sep F h' (plSpM k ev x :: plGM kdStr (spV (k + onN e.k (p.ops.take (i + 1)))) ms (ins e.k (writesV e.k x (p.ops.take (i + 1)) t0) sp) :: plMap mv (t.map (Et.m kdStr)) clk :: plBox pv [.map (some ms), a, .map (some mp), c] 4 :: plBox pp [oa, va, i64 p.now, .map (some mv)] 4 :: plOps oa p.ops :: L) →
   kv (binD .bad .add true (i64 i) (.int .i64 1) h') fun v78 => ∃ m, m < p.ops.length - i ∧ ∃ j : Nat, [v78] = [i64 j] ∧ m = p.ops.length - j ∧ j ≤ p.ops.length ∧
    Sep F h' (plSpM k ev x :: plGM kdStr (spV (k + onN e.k (p.ops.take j))) ms (ins e.k (writesV e.k x (p.ops.take j) t0) sp) :: plMap mv (t.map (Et.m kdStr)) clk :: plBox pv [.map (some ms), a, .map (some mp), c] 4 :: plBox pp [oa, va, i64 p.now, .map (some mv)] 4 :: plOps oa p.ops :: L) := by
   intro h' s'
   rw [add_i64 _ 1 (by omega) (by omega), kv_some]
   exact ⟨p.ops.length - (i + 1), by omega, i + 1, by simp, rfl, by omega, s'⟩
  by_cases hw : o.space = e.k ∧ (o.fn = 4 ∨ o.fn = 5)
  case neg =>
   have hwr : writesV e.k x (p.ops.take (i + 1)) t0 = writesV e.k x (p.ops.take i) t0 := by
    rw [htk1, writes_snoc]
    unfold wrO
    rw [if_neg hw]
   have hsub : k + onN e.k (p.ops.take i) ≤ k + onN e.k (p.ops.take (i + 1)) := by rw [htk1, onN_snoc]; omega
   refine skip_out r0 _ ?_ ?_
   · by_cases hsp : o.space = e.k
     · exact .inr fun hf => hw ⟨hsp, hf⟩
     · exact .inl (by simp [hsp])
   rw [ifV_bool, if_pos rfl]
   refine nextR ?_
   rw [hwr]
   exact (Sep.monoM (mono_sp hsub) s3.drop.up1).up1
  obtain ⟨hsp, hfn⟩ := hw
  have hd : decide (o.space = e.k) = true := by simp [hsp]
  rw [hd]
  refine skip_in r0 hfn ?_
  rw [ifV_bool, if_neg (by simp)]
  have hon : onN e.k (p.ops.take (i + 1)) = onN e.k (p.ops.take i) + 1 := by rw [htk1, onN_snoc, if_pos hsp]
  have hwr : writesV e.k x (p.ops.take (i + 1)) t0 = wrO e.k x o (writesV e.k x (p.ops.take i) t0) := by rw [htk1, writes_snoc]
  have hki : (writesV e.k x (p.ops.take i) t0).kind = 1 := by rw [writes_kind]; exact htk
  rw [hwr, hon] at nextR
  unfold wrO at nextR
  rw [if_pos ⟨hsp, hfn⟩] at nextR
  have nextR := fun {h'} s => @nextR h' s
  generalize hgw : writesV e.k x (p.ops.take i) t0 = tt at s3 nextR hki
  have hj : ∃ jj, onN e.k (p.ops.take i) = jj := ⟨_, rfl⟩
  obtain ⟨jj, hj⟩ := hj
  rw [hj] at s3 nextR
  obtain ⟨bx, tx, rfl, rx, hzx, getx⟩ := tab_get E hxk s3.drop
  have lkS : lkp e.k (ins e.k tt sp) = some tt := by rw [lkp_ins, if_pos rfl]
  have q0 : h3.rd pv 0 = some (.map (some ms)) := by rw [rd_of (Sep.get (s3.re7 [4] rfl)) 0]; rfl
  simp only [aNil_ptr, kv_some, fieldAddr_ptr, ld_one, Nat.zero_add, rx, r2]
  refine cl_then (getx o.key) ?_
  rintro r4 h4 ⟨rfl, rfl⟩
  obtain ⟨w2, e2, s5⟩ := (s3.re7 [2, 1, 3, 4, 5, 6] rfl).lookSome (z := nil) lkS false
  have e2 : lookupD (some (.string, (some (.pointer none)))) (.map (some ms)) (str e.k) false h4 = some w2 := e2
  simp only [extract_tuple, List.getElem?_toArray, List.getElem?_cons_zero, List.getElem?_cons_succ, kv_some, ifV_bool, q0, e2]
  have back : ∀ {h' : AHeap} {tt' : SpM}, Sep F h' (plSpM (k + jj + 1) w2 tt' :: plGM kdStr (holeP e.k w2 (spV (k + jj))) ms (ins e.k tt sp) :: plSpM k (ptr bx 0) x :: plMap mv (t.map (Et.m kdStr)) clk :: plBox pv [.map (some ms), a, .map (some mp), c] 4 :: plBox pp [oa, va, i64 p.now, .map (some mv)] 4 :: plOps oa p.ops :: L) →
   Sep F h' (plSpM k (ptr bx 0) x :: plGM kdStr (spV (k + (jj + 1))) ms (ins e.k tt' sp) :: plMap mv (t.map (Et.m kdStr)) clk :: plBox pv [.map (some ms), a, .map (some mp), c] 4 :: plBox pp [oa, va, i64 p.now, .map (some mv)] 4 :: plOps oa p.ops :: L) := by
   intro h' tt' s6
   have s7 := (Sep.monoM (mono_holeS (Nat.le_succ (k + jj)) e.k w2) s6.up1).up1
   have s8 := Sep.backM (A := spV (k + jj + 1)) (k := e.k) (v := w2) (x' := tt') s7 lkS
   rw [ins_ins] at s8
   exact s8.up1
  cases hq : hitP o.key x.pairs with
  | some qq =>
   rw [hq] at nextR
   simp only [Option.isSome_some, if_true]
   obtain ⟨b2, t2, rfl, rx2, put2⟩ := tab_put E hki o.key qq.val ⟨hoz, hzx _ _ hq⟩ s5
   simp only [aNil_ptr, kv_some, fieldAddr_ptr, ld_one, Nat.zero_add, rx2, r2]
   refine cl_then put2 ?_
   intro r6 h6 s6
   exact nextR (back s6)
  | none =>
   rw [hq] at nextR
   simp only [Option.isSome_none, Bool.false_eq_true, if_false]
   obtain ⟨b2, t2, rfl, rx2, del2⟩ := tab_del E hki o.key hoz s5
   simp only [aNil_ptr, kv_some, fieldAddr_ptr, ld_one, Nat.zero_add, rx2, r2]
   refine cl_then del2 ?_
   intro r6 h6 s6
   exact nextR (back s6)
end Go.Abs
namespace Go.Abs
open Go
variable {E : FE} {F : Fr} {h : AHeap} {L : List Pl} {k : Nat} {p : V} {st : VltM}
def blV (_ : ByteArray) (v : V) (x : Bool) : Pl := plPure (v = .bool x)
theorem Sep.lookB {ma : Nat} {l : List (ByteArray × Bool)} (s : Sep F h (plGM kdStr blV ma l :: L)) (n : ByteArray) :
 lookupD (some (.string, (some (.bool false)))) (.map (some ma)) (str n) false h = some (.bool ((lkp n l).getD false)) := by
 cases hk : Go.Abs.lkp n l with
 | none =>
  have h1 := s.lookNone (z := .bool false) hk false
  have h1 : lookupD (some (.string, (some (.bool false)))) (.map (some ma)) (str n) false h = some (.bool false) := h1
  rw [h1]; rfl
 | some x =>
  obtain ⟨w, h1, s1⟩ := s.lookSome (z := .bool false) hk false
  have h1 : lookupD (some (.string, (some (.bool false)))) (.map (some ma)) (str n) false h = some w := h1
  obtain ⟨hw, _⟩ := Sep.pure (φ := w = .bool x) s1
  rw [h1, hw]; rfl
theorem Sep.ofHole {κ α : Type} [DecidableEq κ] {D : KD κ} {A : κ → V → α → Pl} {m : Nat} {l : List (κ × α)} {k : κ} {w : V} (s : Sep F h (plGM D (holeP k w A) m l :: L)) (hk : Go.Abs.lkp k l = none) :
 Sep F h (plGM D A m l :: L) := by
 obtain ⟨t, clk, q, s1⟩ := s.openM
 have ht : ∀ e ∈ t, e.k ≠ k := fun e he hc => by
  have h1 : k ∉ keysL l := lkp_none.1 hk
  exact h1 ((keys_perm q.perm).mem_iff.1 (by rw [absE_keys]; exact List.mem_map.2 ⟨e, he, hc⟩))
 rw [hole_map (v := w) ht] at s1
 exact Sep.closeM q s1
theorem alls_in {v : V} {ks : List KeyM} {ma : Nat} (s : Sep F h (plGM kdStr blV ma [] :: plKs v ks :: L)) (hsz : ks.length ≤ 1000000) {K : AHeap → Prop}
 (hK : ∀ h' l, (∀ n, (lkp n l).getD false = ks.any fun x => decide (x.space = n) && x.all) → Sep F h' (plGM kdStr blV ma l :: plKs v ks :: L) → K h') :
 kv (lenD .slice v h) fun v23 =>
∃ (Inv24 : Nat → List V → AHeap → Prop) (n24 : Nat), Inv24 n24 [(.int .i64 0)] h ∧ ∀ (n24 : Nat) (e24 : Nat → V) (h : AHeap), Inv24 n24 [(e24 39)] h →
kv (binD .bad .lss false (e24 39) v23 h) fun v25 =>
ifV v25 (
kv (indexAddrD (.slice 3) v (e24 39)) fun v26 =>
kv (ldD (.agg 3) v26 h) fun v27 =>
kP (newD none (.agg #[(.string ⟨#[]⟩), (.string ⟨#[]⟩), (.bool false)]) h) fun v28 h =>
kH (stD (some 3) v28 v27 h) fun _ h =>
kv (fieldAddrD (some 0) v28) fun v29 =>
kv (ldD .one v29 h) fun v30 =>
kv (fieldAddrD (some 0) v28) fun v31 =>
kv (ldD .one v31 h) fun v32 =>
kv (lookupD (some (.string, (some (.bool false)))) (.map (some ma)) v32 false h) fun v33 =>
kv (gdV v33 false (fieldAddrD (some 2) v28)) fun v34 =>
kv (gdV v33 false (ldD .one v34 h)) fun v35 =>
kv (pickV v33 (.bool true) v35) fun v36 =>
kH (mapUpdateD (some (.string, (some (.bool false)))) (.map (some ma)) v30 v36 h) fun _ h =>
kv (binD .bad .add true (e24 39) (.int .i64 1) h) fun v37 =>
∃ m, m < n24 ∧ Inv24 m [v37] h) (
K h) := by
 obtain ⟨f0, q0, _⟩ := s.up1.head
 have q0 : SlE dKey h f0 v ks := q0
 rw [q0.len, kv_some]
 refine ⟨fun n vs h' => ∃ (i : Nat) (l : List (ByteArray × Bool)), vs = [i64 i] ∧ n = ks.length - i ∧ i ≤ ks.length ∧ (∀ n, (lkp n l).getD false = (ks.take i).any fun x => decide (x.space = n) && x.all) ∧ Sep F h' (plGM kdStr blV ma l :: plKs v ks :: L),
  ks.length, ⟨0, [], rfl, by omega, by omega, fun n => by simp [lkp], s⟩, ?_⟩
 rintro n e h1 ⟨i, l, he, rfl, hi, hl, s1⟩
 simp only [List.cons.injEq, and_true] at he
 simp only [he, bin_lss, kv_some, ifV_bool, decide_eq_true_eq]
 rcases Nat.lt_or_ge i ks.length with hx | hx
 case inr =>
  rw [if_neg (show ¬ ((i : Nat) : Int) < (ks.length : Nat) by omega)]
  rw [List.take_of_length_le hx] at hl
  exact hK _ _ hl s1
 rw [if_pos (show ((i : Nat) : Int) < (ks.length : Nat) by omega)]
 obtain ⟨f1, q1, _⟩ := s1.up1.head
 have q1 : SlE dKey h1 f1 v ks := q1
 have hg : ks[i]? = some ks[i] := List.getElem?_eq_getElem hx
 obtain ⟨c, i1, i2⟩ := q1.ld hg
 have i1 : indexAddrD (.slice 3) _ _ = _ := i1
 have i2 : ldD (.agg 3) _ _ = some (ks[i]).agg := i2
 have hnext : ∀ n, ((ks.take (i + 1)).any fun x => decide (x.space = n) && x.all) = (((ks.take i).any fun x => decide (x.space = n) && x.all) || (decide (ks[i].space = n) && ks[i].all)) := fun n => by
  rw [List.take_add_one, hg, Option.toList_some, List.any_append, List.any_cons, List.any_nil, Bool.or_false]
 generalize ks[i] = kx at i2 hnext
 simp only [i1, kv_some, i2, newK0, kP_some]
 have s2 := s1.box (dKey.enc ⟨⟨#[]⟩, ⟨#[]⟩, false⟩) 3
 rw [st3 s2.get, kH_some]
 have s3 := s2.write (cs' := dKey.enc kx)
 generalize (h1.new (.cells (dKey.enc ⟨⟨#[]⟩, ⟨#[]⟩, false⟩) 3 .rw)).put h1.next (.cells (dKey.enc kx) 3 .rw) = h3 at s3 ⊢
 generalize h1.next = bk at s3 ⊢
 have r0 : h3.rd bk 0 = some (str kx.space) := by rw [rd_of s3.get 0]; rfl
 have r2 : h3.rd bk 2 = some (.bool kx.all) := by rw [rd_of s3.get 2]; rfl
 simp only [fieldAddr_ptr, kv_some, ld_one, Nat.zero_add, r0, Sep.lookB s3.drop kx.space, gdV_bool, r2]
 have hb : ∀ X : V → Prop, X (.bool ((lkp kx.space l).getD false || kx.all)) → kv (if (lkp kx.space l).getD false = false then some (ptr bk 2) else some gone) fun v51 => kv (if (lkp kx.space l).getD false = false then ldD .one v51 h3 else some gone) fun v52 => kv (pickV (.bool ((lkp kx.space l).getD false)) (.bool true) v52) X := by
  intro X hX
  cases hv : (lkp kx.space l).getD false with
  | true =>
   rw [hv] at hX
   simpa [pickV_bool] using hX
  | false =>
   rw [hv] at hX
   simpa [pickV_bool, r2] using hX
 refine hb _ ?_
 obtain ⟨h4, e4, s4⟩ := Sep.insM (D := kdStr) (A := blV) (k := kx.space) (v := .bool ((lkp kx.space l).getD false || kx.all)) (x := (lkp kx.space l).getD false || kx.all) (z := .bool false) (Sep.up1 (Sep.mkPure (φ := (Value.bool ((lkp kx.space l).getD false || kx.all) : V) = .bool ((lkp kx.space l).getD false || kx.all)) rfl s3.drop))
 have e4 : mapUpdateD (some (.string, (some (.bool false)))) (.map (some ma)) (str kx.space) (.bool ((lkp kx.space l).getD false || kx.all)) h3 = some h4 := e4
 rw [e4, kH_some, add_i64 _ 1 (by omega) (by omega), kv_some]
 refine ⟨ks.length - (i + 1), by omega, i + 1, _, by simp, rfl, by omega, fun n => ?_, s4⟩
 rw [lkp_ins, hnext n, ← hl n]
 by_cases e : kx.space = n
 · rw [if_pos e, e]; simp
 · rw [if_neg e]; simp [e]
set_option maxHeartbeats 1000000 in
theorem vault_Decide (ve : VlE E) (id : IdM) (yes : Bool) (hi : VInv k st) (hk : k ≤ 900) (s : Sep F h (plVlt k p st :: L)) :
 cl (Go.Abs.F.vault_Vault_Decide E) [p, id.agg, .bool yes] h fun r h' => r = .bool (decV st id yes).1 ∧ Sep F h' (plVlt (k + 8) p (decV st id yes).2 :: L) := by
 obtain ⟨E9, hE9⟩ := ve.ord
 have hM := ve.op.mono
 refine cl_of ?_
 obtain ⟨b, ms, a, mp, c, rfl, s0⟩ := s.openVlt
 clear s
 simp only [Go.Abs.F.vault_Vault_Decide, new2, kP_some, ptr_eq_nil, kv_some, gdV_bool, if_true, aNil_ptr, fieldAddr_ptr, ld_one, Nat.zero_add]
 have s1 := s0.box (cId id) 2
 clear s0
 generalize h.new (.cells (cId id) 2 .rw) = h1 at s1 ⊢
 generalize h.next = bi at s1 ⊢
 have r3 : h1.rd b 3 = some c := by rw [rd_of s1.drop.get 3]; rfl
 rw [r3, kv_some, ld2 s1.get, kv_some]
 refine gdC_yes rfl (cl_then (ids_Add id s1.up5) ?_)
 rintro r h2 ⟨rfl, s2⟩
 clear s1 r3
 simp only [not_bool, kv_some, pickV_bool, Bool.false_eq_true, if_false, ifV_bool, Bool.not_not, decide_eq_true_eq]
 rw [decV_eq]
 by_cases hov : id ∈ st.ov
 · rw [if_pos hov, if_pos hov]
   rw [if_pos hov] at s2
   exact ⟨rfl, mono_vlt (Nat.le_add_right k 8) (Sep.closeVlt (s2.re6 [2, 3, 4, 5, 0] rfl))⟩
 rw [if_neg hov, if_neg hov]
 rw [if_neg hov] at s2
 have r2 : h2.rd b 2 = some (.map (some mp)) := by rw [rd_of s2.drop.drop.get 2]; rfl
 rw [r2, kv_some, ld2 s2.drop.get, kv_some]
 cases hk1 : Go.Abs.lkp id st.pt with
 | none =>
  have e1 := s2.up5.lookNone (z := nil) hk1 false
  have e1 : lookupD (some ((.struct false [(0, .int), (1, .int)]), (some (.pointer none)))) (.map (some mp)) id.agg false h2 = some nil := e1
  rw [e1, kv_some]
  simp only [nil_eq_nil, kv_some, ifV_bool, if_true]
  exact ⟨trivial, mono_vlt (Nat.le_add_right k 8) (Sep.closeVlt (st := ({ st with ov := id :: st.ov } : VltM)) (s2.re6 [2, 3, 4, 5, 0] rfl))⟩
 | some x =>
 obtain ⟨w, e1, s3⟩ := s2.up5.lookSome (z := nil) hk1 false
 have e1 : lookupD (some ((.struct false [(0, .int), (1, .int)]), (some (.pointer none)))) (.map (some mp)) id.agg false h2 = some w := e1
 obtain ⟨bp, oa, va, mv, rfl, s4⟩ := Sep.openPart (k := k) (x := x) s3
 clear s2 s3
 rw [e1, kv_some]
 simp only [ptr_eq_nil, kv_some, ifV_bool, Bool.false_eq_true, if_false]
 have em : ∀ h : AHeap, makeMapD true none h = some (.map (some h.next), h.new (.map [] 0)) := fun _ => rfl
 rw [em, kP_some]
 have s5 := s4.newM (D := kdStr) (A := blV)
 clear s4 e1 r2
 generalize h2.new (.map [] 0) = h3 at s5 ⊢
 generalize h2.next = ma at s5 ⊢
 have r1 : h3.rd b 1 = some a := by rw [rd_of (Sep.get (s5.re11 [8] rfl)) 1]; rfl
 rw [r1, kv_some, ld2 (Sep.get (s5.re11 [7] rfl)), kv_some]
 have hnlk := hi.nlk
 have hfew := hi.few id
 refine cl_then (lock_Has hM hE9 id (s5.re11 [10, 0, 1, 2, 3, 4, 5, 6, 7, 8, 9] rfl) (by omega) (by omega)) ?_
 rintro kv_ h4 ⟨ks, hks, hkl, s6⟩
 clear s5 r1
 refine alls_in (s6.re12 [2, 0, 1, 3, 4, 5, 6, 7, 8, 9, 10, 11] rfl) (by omega) fun h5 la hla s7 => ?_
 clear s6
 have hal : ∀ n, (lkp n la).getD false = allOf st.lk id n := fun n => by
  rw [hla n, Bool.eq_iff_iff]
  unfold allOf
  rw [List.any_eq_true, List.any_eq_true]
  constructor
  · rintro ⟨y, h1, h2⟩
    exact ⟨(y, id), (hks y).1 h1, by simpa using h2⟩
  · rintro ⟨y, h1, h2⟩
    simp only [Bool.and_eq_true, decide_eq_true_eq] at h2
    obtain ⟨⟨h3, h4⟩, h5⟩ := h2
    exact ⟨y.1, (hks y.1).2 (by rw [← h3]; exact h1), by simp [h4, h5]⟩
 have r1 : h5.rd b 1 = some a := by rw [rd_of (Sep.get (s7.re12 [10] rfl)) 1]; rfl
 rw [r1, kv_some, ld2 (Sep.get (s7.re12 [9] rfl)), kv_some]
 refine cl_then (lock_Free hM hE9 id (s7.re12 [2, 0, 3, 4, 5, 6, 7, 8, 9, 10, 11] rfl) (by omega) (by omega)) ?_
 rintro r h6 ⟨_, s8⟩
 clear s7 r1
 have r2 : h6.rd b 2 = some (.map (some mp)) := by rw [rd_of (Sep.get (s8.re11 [9] rfl)) 2]; rfl
 rw [r2, kv_some, ld2 (Sep.get (s8.re11 [8] rfl)), kv_some]
 obtain ⟨h7, e7, s9⟩ := Sep.delM (D := kdId) (k := id) (z := nil) (s8.re11 [6, 0, 1, 2, 3, 5, 7, 8, 9, 10] rfl)
 have e7 : deleteD (some ((.struct false [(0, .int), (1, .int)]), (some (.pointer none)))) (.map (some mp)) id.agg h6 = some h7 := e7
 have s9 := Sep.ofHole s9 (by rw [lkp_rmv hi.dpt, if_pos rfl])
 clear s8 r2
 rw [e7, kH_some]
 have r3 : h7.rd bp 3 = some (.map (some mv)) := by rw [rd_of (Sep.get (s9.re10 [3] rfl)) 3]; rfl
 rw [aNil_ptr, kv_some, fieldAddr_ptr, kv_some, ld_one, Nat.zero_add, r3, kv_some]
 have hpm := lkp_mem hk1
 obtain ⟨t, clk, q, s10⟩ := Sep.openM (s9.re10 [5, 9, 2, 8, 3, 4, 1, 0, 6] rfl)
 have htl : t.length = x.view.length := by have := q.perm.length_eq; simpa [absE] using this
 have htk : (t.map (·.k)).Nodup := by rw [← absE_keys]; exact q.ndt
 clear s9 r3 e7
 refine Sep.range s10 (fun it h8 s11 => ?_)
 clear s10
 refine ⟨fun n vs h' => ∃ td rem seen, vs = [] ∧ n = t.length - td.length ∧ SeenT t td seen ∧ t.Perm (td ++ rem) ∧
  Sep F h' (plIter it mv clk seen :: plMap mv (t.map (Et.m kdStr)) clk :: (rem.map (Et.p (vwV k)) ++ plGM kdStr (spV (k + ((td.map fun e => onN e.k x.ops).sum))) ms (if yes = true then laysA x (allOf st.lk id) (absE td) st.sp else st.sp) :: plGM kdStr blV ma la ::
   plBox b [.map (some ms), a, .map (some mp), c] 4 :: plBox bp [oa, va, i64 x.now, .map (some mv)] 4 :: plOps oa x.ops :: plLk a (freeL id st.lk) :: plGM kdId (ptV k) mp (rmv id st.pt) :: plIds c (id :: st.ov) :: L)),
  t.length, ⟨[], t, #[], rfl, rfl, SeenT.nil t, by simp, by
   have e0 : (if yes = true then laysA x (allOf st.lk id) (absE []) st.sp else st.sp) = st.sp := by split <;> rfl
   rw [e0]; exact s11⟩, ?_⟩
 clear s11
 rintro n e0 h9 ⟨td, rem, seen, _, rfl, hs, hpr, s12⟩
 have tdk : (td.map (·.k)).Nodup := by
  have := (hpr.map (·.k)).nodup_iff.1 htk
  rw [List.map_append, List.nodup_append] at this
  exact this.1
 refine Sep.nextT s12 q.lt q.bn hs (fun e he hne h10 s13 hs5 hent hlen => ?_) (fun hperm => ?_)
 · simp only [extract_tuple, List.getElem?_toArray, List.getElem?_cons_zero, List.getElem?_cons_succ, kv_some, ifV_bool, if_true]
   rw [hent, kV_some]
   simp only [extract_tuple, List.getElem?_toArray, List.getElem?_cons_zero, List.getElem?_cons_succ, kv_some]
   have hrem : e ∈ rem := by
    rcases List.mem_append.1 (hpr.mem_iff.1 he) with h | h
    · exact absurd h hne
    · exact h
   obtain ⟨r1, r2, hr⟩ := List.append_of_mem hrem
   have hpr' : t.Perm ((td ++ [e]) ++ (r1 ++ r2)) := by
    rw [hr] at hpr
    refine hpr.trans ?_
    rw [List.append_assoc, List.singleton_append]
    exact List.Perm.append_left _ List.perm_middle
   have hkn : e.k ∉ td.map (·.k) := by
    have := (hpr'.map (·.k)).nodup_iff.1 htk
    rw [List.map_append, List.map_append, List.nodup_append] at this
    have h2 := this.1
    rw [List.nodup_append] at h2
    intro hm
    exact h2.2.2 _ hm e.k (by simp) rfl
   have hsum : ((td ++ [e]).map fun e => onN e.k x.ops).sum = (td.map fun e => onN e.k x.ops).sum + onN e.k x.ops := by simp
   have s14 : Sep F h10 (vwV k e.k e.v e.x :: plIter it mv clk (seen.push e.b) :: plMap mv (t.map (Et.m kdStr)) clk :: ((r1 ++ r2).map (Et.p (vwV k)) ++ plGM kdStr (spV (k + ((td.map fun e => onN e.k x.ops).sum))) ms (if yes = true then laysA x (allOf st.lk id) (absE td) st.sp else st.sp) :: plGM kdStr blV ma la ::
    plBox b [.map (some ms), a, .map (some mp), c] 4 :: plBox bp [oa, va, i64 x.now, .map (some mv)] 4 :: plOps oa x.ops :: plLk a (freeL id st.lk) :: plGM kdId (ptV k) mp (rmv id st.pt) :: plIds c (id :: st.ov) :: L)) := by
    refine s13.perm ?_
    rw [hr]
    simp only [List.map_append, List.map_cons, List.append_assoc, List.cons_append]
    refine (List.Perm.trans ?_ (List.perm_middle (l₁ := [plIter it mv clk (seen.push e.b), plMap mv (t.map (Et.m kdStr)) clk])))
    exact List.Perm.append_left [plIter it mv clk (seen.push e.b), plMap mv (t.map (Et.m kdStr)) clk] List.perm_middle
   clear s13 s12
   cases yes with
   | false =>
    simp only [Bool.false_eq_true, if_false] at s14 ⊢
    refine ⟨t.length - (td.length + 1), by omega, td ++ [e], r1 ++ r2, _, trivial, by simp, hs5, hpr', ?_⟩
    rw [hsum]
    have s15 := s14.drop
    have s16 : Sep F h10 (plGM kdStr (spV (k + ((td.map fun e => onN e.k x.ops).sum))) ms st.sp :: plIter it mv clk (seen.push e.b) :: plMap mv (t.map (Et.m kdStr)) clk :: ((r1 ++ r2).map (Et.p (vwV k)) ++ plGM kdStr blV ma la ::
     plBox b [.map (some ms), a, .map (some mp), c] 4 :: plBox bp [oa, va, i64 x.now, .map (some mv)] 4 :: plOps oa x.ops :: plLk a (freeL id st.lk) :: plGM kdId (ptV k) mp (rmv id st.pt) :: plIds c (id :: st.ov) :: L)) :=
     s15.perm (List.perm_middle (l₁ := plIter it mv clk (seen.push e.b) :: plMap mv (t.map (Et.m kdStr)) clk :: ((r1 ++ r2).map (Et.p (vwV k)))))
    have s17 := Sep.monoM (mono_sp (show k + ((td.map fun e => onN e.k x.ops).sum) ≤ k + ((td.map fun e => onN e.k x.ops).sum + onN e.k x.ops) by omega)) s16
    exact s17.perm (List.perm_middle (l₁ := plIter it mv clk (seen.push e.b) :: plMap mv (t.map (Et.m kdStr)) clk :: ((r1 ++ r2).map (Et.p (vwV k))))).symm
   | true =>
    simp only [if_true] at s14 ⊢
    have s15 := mono_vw (Nat.le_add_right k ((td.map fun e => onN e.k x.ops).sum)) _ _ _ _ _ _ s14
    generalize hS : (td.map fun e => onN e.k x.ops).sum = S at s14 s15 hsum ⊢
    clear s14
    have s16 : Sep F h10 (plGM kdStr (spV (k + S)) ms (laysA x (allOf st.lk id) (absE td) st.sp) :: plGM kdStr blV ma la :: plBox b [.map (some ms), a, .map (some mp), c] 4 :: plBox bp [oa, va, i64 x.now, .map (some mv)] 4 :: plOps oa x.ops :: plLk a (freeL id st.lk) :: plGM kdId (ptV k) mp (rmv id st.pt) :: plIds c (id :: st.ov) ::
     vwV (k + S) e.k e.v e.x :: plIter it mv clk (seen.push e.b) :: plMap mv (t.map (Et.m kdStr)) clk :: ((r1 ++ r2).map (Et.p (vwV k)) ++ L)) := by
     refine s15.perm ?_
     exact List.perm_append_comm_assoc (vwV (k + S) e.k e.v e.x :: plIter it mv clk (seen.push e.b) :: plMap mv (t.map (Et.m kdStr)) clk :: ((r1 ++ r2).map (Et.p (vwV k))))
      [plGM kdStr (spV (k + S)) ms (laysA x (allOf st.lk id) (absE td) st.sp), plGM kdStr blV ma la, plBox b [.map (some ms), a, .map (some mp), c] 4, plBox bp [oa, va, i64 x.now, .map (some mv)] 4, plOps oa x.ops, plLk a (freeL id st.lk), plGM kdId (ptV k) mp (rmv id st.pt), plIds c (id :: st.ov)] L
    clear s15
    rw [show kdStr.enc e.k = str e.k from rfl, Sep.lookB s16.up1 e.k, kv_some, hal e.k]
    have hlx : lkp e.k (laysA x (allOf st.lk id) (absE td) st.sp) = lkp e.k st.sp := by
     rw [laysA_lkp x _ _ hi.dsp (by rw [absE_keys]; exact tdk), lkp_none.2 (by rw [absE_keys]; exact hkn)]
    have hev : (e.k, e.x) ∈ x.view := q.perm.mem_iff.1 (List.mem_map.2 ⟨e, he, rfl⟩)
    have hmay := allF (hi.may _ hpm)
    refine cl_then (vault_lays (allOf st.lk id e.k) he q (fun hf => ?_) (fun o ho => ?_) hmay.2.1 (s16.re11 [8, 0, 10, 2, 3, 4, 9, 1, 5, 6, 7] rfl)) ?_
    · rw [hlx]
      exact hi.tab _ hpm _ hev (not_all hi hpm hf)
    · have := (mayF (hmay.2.2 o ho)).key
      simp only [maxLen]
      omega
    · intro r h11 s17
      refine ⟨t.length - (td.length + 1), by omega, td ++ [e], r1 ++ r2, _, trivial, by simp, hs5, hpr', ?_⟩
      have hla2 : laysA x (allOf st.lk id) (absE (td ++ [e])) st.sp = laysV x (allOf st.lk id e.k) e.k e.x (laysA x (allOf st.lk id) (absE td) st.sp) := by
       unfold laysA absE
       rw [List.map_append, List.foldl_append]
       rfl
      rw [hsum, hla2, ← Nat.add_assoc]
      have s18 : Sep F h11 ([plIter it mv clk (seen.push e.b), plMap mv (t.map (Et.m kdStr)) clk] ++ ([plGM kdStr (spV (k + S + onN e.k x.ops)) ms (laysV x (allOf st.lk id e.k) e.k e.x (laysA x (allOf st.lk id) (absE td) st.sp)), plGM kdStr blV ma la, plBox b [.map (some ms), a, .map (some mp), c] 4, plBox bp [oa, va, i64 x.now, .map (some mv)] 4, plOps oa x.ops, plLk a (freeL id st.lk), plGM kdId (ptV k) mp (rmv id st.pt), plIds c (id :: st.ov)] ++ ((r1 ++ r2).map (Et.p (vwV k)) ++ L))) := s17.re10 [5, 1, 0, 6, 2, 3, 4, 7, 8, 9] rfl
      exact s18.perm (List.Perm.append_left _ (List.perm_append_comm_assoc _ ((r1 ++ r2).map (Et.p (vwV k))) L))
 · simp only [extract_tuple, List.getElem?_toArray, List.getElem?_cons_zero, List.getElem?_cons_succ, kv_some, ifV_bool, Bool.false_eq_true, if_false]
   have hrem : rem = [] := by
    have h1 := hperm.length_eq
    have h2 := hpr.length_eq
    rw [List.length_append] at h2
    exact List.eq_nil_of_length_eq_zero (by omega)
   subst hrem
   simp only [List.map_nil, List.nil_append] at s12
   have hS : (td.map fun e => onN e.k x.ops).sum ≤ 8 := by
    have h1 := onN_sum x.ops tdk
    rw [List.map_map] at h1
    have h2 := hi.ops8 _ hpm
    have h2 : x.ops.length ≤ 8 := h2
    have h3 : (td.map ((fun n => onN n x.ops) ∘ fun e => e.k)) = td.map fun e => onN e.k x.ops := rfl
    rw [h3] at h1
    omega
   have hab : (absE td).Perm x.view := ((hperm.map _).symm).trans q.perm
   have hvn : (keysL (absE td)).Nodup := by rw [absE_keys]; exact tdk
   have s13 : Sep F h9 (plGM kdStr (spV (k + 8)) ms (if yes = true then laysA x (allOf st.lk id) x.view st.sp else st.sp) :: plBox b [.map (some ms), a, .map (some mp), c] 4 :: plLk a (freeL id st.lk) :: plGM kdId (ptV (k + 8)) mp (rmv id st.pt) :: plIds c (id :: st.ov) :: L) := by
    have s14 := Sep.monoM (mono_pt (Nat.le_add_right k 8)) (s12.re10 [8, 2, 4, 7, 9] rfl)
    have s15 := Sep.monoM (mono_sp (show k + (td.map fun e => onN e.k x.ops).sum ≤ k + 8 by omega)) s14.up1
    have s16 := s15.re5 [0, 2, 3, 1, 4] rfl
    cases yes with
    | false => exact s16
    | true => exact Sep.permM (laysA_perm x _ hi.dsp hvn hab) s16
   exact ⟨trivial, Sep.closeVlt (st := (⟨if yes = true then laysA x (allOf st.lk id) x.view st.sp else st.sp, freeL id st.lk, rmv id st.pt, id :: st.ov⟩ : VltM)) (s13.re5 [1, 0, 2, 3, 4] rfl)⟩
end Go.Abs

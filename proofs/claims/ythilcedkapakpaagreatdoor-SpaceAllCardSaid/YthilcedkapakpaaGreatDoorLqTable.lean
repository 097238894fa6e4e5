/- TableAll, on abstract heaps. -/
import Derived.Test.YthilcedkapakpaaGreatDoorRepD
import Derived.Test.YthilcedkapakpaaGreatDoorRep20
import Derived.Test.YthilcedkapakpaaGreatDoorLawA
set_option linter.unusedSimpArgs false
set_option linter.unusedVariables false
namespace Go.Abs
open Go Go.Proofs
variable {E : FE} {h : AHeap} {X : Fr} {L : List Pl} {p pw : V} {g : List En} {ps : List Pr}

theorem getE_ofmem : ∀ {l : List En}, (keysE l).Nodup → ∀ {e : En}, e ∈ l → getE e.k l = some e.v
  | [], _, e, h => by simp at h
  | a :: l, hn, e, h => by
    simp only [keysE, List.map_cons, List.nodup_cons] at hn
    simp only [getE]
    rcases List.mem_cons.1 h with rfl | h
    · simp
    · have : ¬ a.k = e.k := fun hk => hn.1 (hk ▸ List.mem_map.2 ⟨e, h, rfl⟩)
      rw [if_neg this]
      exact getE_ofmem hn.2 h

theorem TW.vals (t : TW g ps) (hn : (keysE g).Nodup) : ∀ e ∈ g, ∃ s, e.v = str s := by
  intro e he
  have h1 := getE_ofmem hn he
  rw [t.same] at h1
  obtain ⟨q, _, h2⟩ := Option.map_eq_some_iff.1 h1
  exact ⟨q.val, h2.symm⟩

theorem TW.len (t : TW g ps) (hn : (keysE g).Nodup) : g.length = ps.length := by
  have := (t.perm hn).length_eq
  simpa [keysE] using this

theorem TW.keysz (t : TW g ps) (hn : (keysE g).Nodup) (hz : ∀ q ∈ ps, q.key.size ≤ maxLen) : ∀ e ∈ g, e.k.size ≤ maxLen := by
  intro e he
  have : e.k ∈ ps.map (·.key) := (t.perm hn).mem_iff.1 (List.mem_map.2 ⟨e, he, rfl⟩)
  obtain ⟨q, h1, h2⟩ := List.mem_map.1 this
  rw [← h2]
  exact hz q h1

theorem Tab.nd {fp : List Nat} (t : Tab h fp p g) : (keysE g).Nodup := by
  obtain ⟨b, m, clk, _, _, _, _, _, _, _, hn⟩ := t
  exact hn.1

theorem encStr_kl (k : ByteArray) : encStr (kl k) = str k := by
  obtain ⟨⟨k⟩⟩ := k
  rfl

/-- A table and the document's: the same. -/
theorem law_sameTable {fp fq : List Nat} {s : SpM} (t : Tab h fp p g) (c : Sp h fq pw s) (tw : TW g s.pairs) (hz : ∀ q ∈ s.pairs, q.key.size ≤ maxLen) (hl : s.pairs.length ≤ 1000) :
    cl (F.estafettelaw8_sameTable E) [p, pw] h fun r h' => r = .bool true ∧ Mod h [] h' [] := by
  have hn := t.nd
  have hlen := tw.len hn
  have hsort := tw.sorted hn
  refine cl_of ?_
  simp only [F.estafettelaw8_sameTable]
  refine cl_then (table_Keys t (tw.keysz hn hz) (by omega)) ?_
  rintro r h1 ⟨f1, k1, m1⟩
  have t1 : Tab h1 fp p g := t.same m1.next fun x hx => m1.same x (t.lt x hx) (by simp)
  have c1 : Sp h1 fq pw s := c.same m1.next fun x hx => m1.same x (c.lt x hx) (by simp)
  have hget := fun k => table_Get (E := E) t1 (tw.vals hn) k
  have m1' : Mod h [] h1 [] := ⟨m1.next, m1.same, by simp, by simp⟩
  clear t c
  obtain ⟨b, fP, fI, fL, vP, vI, vL, rfl, rfl, c1⟩ := c1
  have hl1 := Sl.len k1
  have hl2 := Sl.len c1.pairs
  rw [hsort] at k1
  simp only [hl1, hl2, kv_some, aNil_ptr, fieldAddr_ptr, ld_one, Nat.zero_add, rd_of c1.cell, List.getElem?_cons_succ, List.getElem?_cons_zero, hlen, bin_neq, bne_self_eq_false, ifV_bool, Bool.false_eq_true, if_false]
  refine ⟨fun n vs h' => ∃ i : Nat, i ≤ s.pairs.length ∧ n = s.pairs.length - i ∧ vs = [i64 i] ∧ h' = h1, s.pairs.length, ⟨0, by omega, by omega, rfl, rfl⟩, ?_⟩
  rintro n e h2 ⟨i, hi, rfl, he, e2⟩
  simp only [List.cons.injEq, and_true] at he
  rw [e2]
  simp only [he, hl1, hlen, kv_some, bin_lss, ifV_bool]
  by_cases hx : i < s.pairs.length
  · have hx' : (i : Int) < (s.pairs.length : Nat) := by omega
    obtain ⟨q, hq⟩ : ∃ q, s.pairs[i]? = some q := ⟨s.pairs[i], by simp [hx]⟩
    obtain ⟨bk, _, i1, i2⟩ := Sl.at k1 (i := i) (by omega)
    have i3 : h1.rd bk (i * 1) = some (str q.key) := by
      have := i2 0 (by decide)
      rw [Nat.add_zero] at this
      rw [this, Nat.mul_one]
      simp [hq, encStr_kl]
    obtain ⟨bp, _, j1, j2, j3, _⟩ := Prs.at c1.pairs hq
    have hh : hitP q.key s.pairs = some q := hit_of tw.rise (List.mem_of_getElem? hq)
    simp only [hx', decide_true, if_true, i1, kv_some, ld_one, i3]
    refine cl_then (hget q.key) ?_
    rintro r h3 ⟨e3, rfl⟩
    rw [e3]
    simp only [tw.same, hh, Option.map_some, Option.getD_some, Option.isSome_some, extract_tuple, List.getElem?_toArray, List.getElem?_cons_zero, List.getElem?_cons_succ, kv_some, not_bool, Bool.not_true, gdV_bool, if_true, i1, i3, ld_one, aNil_ptr, fieldAddr_ptr, Nat.zero_add,
      rd_of c1.cell, j1, j2, j3, Nat.add_zero, str_neq, decide_true, pickV_bool, Bool.false_eq_true, if_false, ifV_bool]
    rw [add_i64 _ 1 (by omega) (by omega), kv_some]
    exact ⟨s.pairs.length - (i + 1), by omega, i + 1, by omega, rfl, by simp, trivial⟩
  · have hx' : ¬ (i : Int) < (s.pairs.length : Nat) := by omega
    simp only [hx', decide_false, Bool.false_eq_true, if_false]
    exact ⟨trivial, m1'⟩

def spT (ps : List Pr) : SpM := ⟨⟨#[]⟩, 1, ps, 1, [], [], 1⟩

/-- What a table's pairs are behind k operations. -/
structure TI (k : Nat) (g : List En) (ps : List Pr) : Prop where
  tw : TW g ps
  len : ps.length ≤ k
  sz : ∀ q ∈ ps, q.key.size ≤ maxLen

theorem TI.mono {k k' : Nat} (t : TI k g ps) (h : k ≤ k') : TI k' g ps := ⟨t.tw, Nat.le_trans t.len h, t.sz⟩

theorem TI.put {k : Nat} (t : TI k g ps) (q : Pr) (c : Nat) (hq : q.key.size ≤ maxLen) : TI (k + 1) (putE q.key (str q.val) c g) (putP q ps) :=
  ⟨t.tw.put q c, Nat.le_trans (put_len q ps) (by have := t.len; omega), fun x hx => by
    rcases mem_putP hx with rfl | hx
    · exact hq
    · exact t.sz x hx⟩

theorem TI.del {k : Nat} (t : TI k g ps) (hn : (keysE g).Nodup) (key : ByteArray) : TI k (delE key g) (delP key ps) :=
  ⟨t.tw.del hn key, Nat.le_trans (del_len key ps) t.len, fun x hx => t.sz x ((del_sub key ps).mem hx)⟩

/-- What stands behind each operation. -/
def TableSt (N : Nat) (v : V) (l : List OpA) (pt pw : V) (k : Nat) (pc pd : V) (h : AHeap) (R : List Pl) : Prop :=
  ∃ g ps g2 ps2, TI k g ps ∧ TI k g2 ps2 ∧ Sep (frOps N v l) h (plTab pt g :: plSp pw (spT ps) :: plTab pc g2 :: plSp pd (spT ps2) :: R)

theorem same_step (s : Sep X h (plTab p g :: plSp pw (spT ps) :: L)) (ti : TI 1000 g ps) {K : V → AHeap → Prop} (hK : ∀ h', Sep X h' (plTab p g :: plSp pw (spT ps) :: L) → K (.bool true) h') :
    cl (Go.Abs.F.estafettelaw8_sameTable E) [p, pw] h K := by
  obtain ⟨a, ht, _⟩ := s.head
  obtain ⟨a2, hc, _⟩ := s.up1.head
  refine cl_then (law_sameTable ht hc ti.tw ti.sz ti.len) ?_
  rintro r h' ⟨rfl, m⟩
  exact hK _ (s.skip m)

theorem law_TableAll {v : V} {l : List OpA} (s : Ops h.next h v l) (hz : ∀ o ∈ l, o.key.size ≤ maxLen) :
    Go.Abs.F.estafettelaw8_TableAll E [v] h fun v _ => v = .bool true := by
  simp only [Go.Abs.F.estafettelaw8_TableAll]
  refine cl_of ⟨rfl, ?_⟩
  simp only [not_bool, kv_some, ifV_bool, Bool.not_true, Bool.false_eq_true, if_false]
  have s0 : Sep (frOps h.next v l) h [] := ⟨Nat.le_refl _, s, [], rfl⟩
  generalize h.next = N at s0
  clear s
  refine cl_then table_New ?_
  rintro pt h1 ⟨f1, t1, m1⟩
  have s1 := s0.alloc (plTab pt []) m1 t1
  refine cl_then (ref8_New 1 1) ?_
  rintro pw h2 ⟨f2, w2, m2⟩
  have s2 := (s1.alloc (plSp pw (spT [])) m2 w2).up1
  obtain ⟨fq, hq, _⟩ := s2.head
  refine cl_then (table_Clone hq) ?_
  rintro pc h3 ⟨f3, c3, m3⟩
  have s3 := (s2.alloc (plTab pc []) m3 c3).dn2
  obtain ⟨fw, hw, _⟩ := s3.up1.head
  refine cl_then (ref8_Clone hw (by simp [spT])) ?_
  rintro pd h4 ⟨f4, d4, m4⟩
  have s4 := (s3.alloc (plSp pd (spT [])) m4 d4).dn3
  have w0 : TI 0 [] [] := ⟨TW.nil, by simp, by simp⟩
  refine ⟨fun k vs h' => ∃ (i : Nat) (pc pd : V), i ≤ l.length ∧ i ≤ 90 ∧ k = l.length - i ∧ vs = [pc, pd, i64 i] ∧ TableSt N v l pt pw i pc pd h' [], l.length,
    ⟨0, pc, pd, by omega, by omega, by omega, rfl, [], [], [], [], w0, w0, s4⟩, ?_⟩
  rintro k e h5 ⟨i, pc, pd, hi, h90', rfl, he, g, ps, g2, ps2, wa, wb, s5⟩
  simp only [List.cons.injEq, and_true] at he
  obtain ⟨e1, e2, e3⟩ := he
  have hI : Ops N h5 v l := s5.2.1
  simp only [e1, e2, e3, Ro.len hI h5, kv_some, bin_lss, gdV_bool]
  by_cases hx : i < l.length
  · have hx' : ((i : Int) < (l.length : Nat)) := by omega
    simp only [hx', decide_true, if_true, kv_some, bin_lss, pickV_bool, ifV_bool, decide_eq_true_eq]
    by_cases h90 : (i : Int) < 90
    · rw [if_pos h90]
      obtain ⟨o, ho⟩ : ∃ o, l[i]? = some o := ⟨l[i], by simp [hx]⟩
      have hok : o.key.size ≤ maxLen := hz o (List.mem_of_getElem? ho)
      obtain ⟨b, off, ex, er⟩ := hI.row ho
      simp only [ex, kv_some, er, new6, kP_some]
      have s6 := (s5.box [.int .i64 0, .string ⟨#[]⟩, .string ⟨#[]⟩, .int .i64 0, .int .i64 0, .int .i64 0] 6)
      have g6 := s6.get
      rw [st6 g6, kH_some]
      have s7 := s6.write (cs' := o.cells)
      have g7 := s7.get
      generalize (h5.new (.cells [.int .i64 0, .string ⟨#[]⟩, .string ⟨#[]⟩, .int .i64 0, .int .i64 0, .int .i64 0] 6 .rw)).put h5.next (.cells o.cells 6 .rw) = h7 at s7 g7
      generalize h5.next = bo at s7 g7
      have s8 := s7.dn4
      have rd : ∀ {h' : AHeap}, h'.get bo = some (.cells o.cells 6 .rw) → h'.rd bo 0 = some (i64 o.kind) ∧ h'.rd bo 1 = some (str o.key) ∧ h'.rd bo 2 = some (str o.val) := fun hg => ⟨rd_of hg 0, rd_of hg 1, rd_of hg 2⟩
      obtain ⟨r0, r1, r2⟩ := rd g7
      simp only [fieldAddr_ptr, kv_some, ld_one, Nat.zero_add, r0]
      have la := wa.len
      have lb := wb.len
      refine ⟨fun vs h' => ∃ pc pd, vs = [pc, pd] ∧ TableSt N v l pt pw (i + 1) pc pd h' [plBox bo o.cells 6], ?_, ?_⟩
      rotate_left
      · rintro e9 h9 ⟨pc, pd, he9, g, ps, g2, ps2, wa, wb, s9⟩
        simp only [List.cons.injEq, and_true] at he9
        obtain ⟨e4, e5⟩ := he9
        simp only [e4, e5]
        refine same_step s9 (wa.mono (by omega)) fun h10 s10 => ?_
        simp only [not_bool, Bool.not_true, kv_some, gdV_bool, if_true]
        refine gdC_yes rfl (same_step (s10.up2.up3.dn1) (wb.mono (by omega)) fun h11 s11 => ?_)
        simp only [not_bool, Bool.not_true, kv_some, gdV_bool, if_true, pickV_bool, Bool.false_eq_true, if_false, ifV_bool]
        rw [add_i64 _ 1 (by omega) (by omega), kv_some]
        exact ⟨l.length - (i + 1), by omega, i + 1, pc, pd, by omega, by omega, rfl, by simp, g, ps, g2, ps2, wa, wb, (s11.up2.up3.dn1).up4.drop⟩
      · simp only [bin_eql, kv_some]
        refine ⟨fun vs h' => vs = [.bool (o.kind == 0 || o.kind == 1)] ∧ h' = h7, ?_, ?_⟩
        · cases hk : (o.kind == 0)
          · simp only [ifV_bool, Bool.false_eq_true, if_false, Bool.false_or]
            exact ⟨trivial, trivial⟩
          · simp only [ifV_bool, if_true, Bool.true_or]
            exact ⟨trivial, trivial⟩
        rintro e8 h8 ⟨he8, e88⟩
        simp only [List.cons.injEq, and_true] at he8
        rw [he8, e88]
        simp only [ifV_bool]
        by_cases hk : (o.kind == 0 || o.kind == 1) = true
        · rw [if_pos hk]
          simp only [r1, r2, kv_some]
          obtain ⟨fq, hq, kq⟩ := s8.head
          refine cl_then (table_Put hq o.key (str o.val)) ?_
          rintro r hA ⟨rfl, c, tA, mA⟩
          have sA := kq (plTab pt (putE o.key (str o.val) c g)) mA tA
          obtain ⟨_, rA1, rA2⟩ := rd (sA.getM (b := bo) (by simp))
          simp only [rA1, rA2, true_and]
          obtain ⟨fw, hw, kw⟩ := sA.h1
          refine cl_then (ref8_Put hw o.key o.val (by simp only [spT]; omega)) ?_
          rintro r hB ⟨rfl, fB, wB, mB⟩
          have sB := kw (plSp pw (spT (putP ⟨o.key, o.val, 0⟩ ps))) mB wB
          have eb : (getE o.key g).isNone = !(hitP o.key (spT ps).pairs).isSome := by
            show (getE o.key g).isNone = !(hitP o.key ps).isSome
            rw [← wa.tw.hit]
            cases getE o.key g <;> rfl
          simp only [eb, bin_bool_ne, beq_self_eq_true, Bool.not_true, kv_some, ifV_bool, Bool.false_eq_true, if_false]
          exact ⟨pc, pd, rfl, _, _, g2, ps2, wa.put ⟨o.key, o.val, 0⟩ c hok, wb.mono (by omega), sB⟩
        rw [if_neg hk]
        by_cases hk2 : (o.kind == 2) = true
        · rw [if_pos hk2]
          simp only [r1, kv_some]
          obtain ⟨fq, hq, kq⟩ := s8.head
          have hn := Tab.nd hq
          refine cl_then (table_Del hq (wa.tw.vals hn) o.key) ?_
          rintro r hA ⟨rfl, tA, mA⟩
          have sA := kq (plTab pt (delE o.key g)) mA tA
          obtain ⟨_, rA1, _⟩ := rd (sA.getM (b := bo) (by simp))
          simp only [rA1, true_and]
          obtain ⟨fw, hw, kw⟩ := sA.h1
          refine cl_then (ref8_Del hw o.key (by simp only [spT]; omega)) ?_
          rintro r hB ⟨rfl, fB, wB, mB⟩
          have sB := kw (plSp pw (spT (delP o.key ps))) mB wB
          have eb : (getE o.key g).isSome = (hitP o.key (spT ps).pairs).isSome := wa.tw.hit _
          simp only [eb, bin_bool_ne, beq_self_eq_true, Bool.not_true, kv_some, ifV_bool, Bool.false_eq_true, if_false]
          exact ⟨pc, pd, rfl, _, _, g2, ps2, (wa.del hn o.key).mono (by omega), wb.mono (by omega), sB⟩
        rw [if_neg hk2]
        by_cases hk3 : (o.kind == 3) = true
        · rw [if_pos hk3]
          obtain ⟨fq, hq, kq⟩ := s8.head
          refine cl_then (table_Clone hq) ?_
          rintro pc' hA ⟨f3, c3, m3⟩
          have sA := (s8.alloc (plTab pc' g) m3 c3).dn2
          obtain ⟨fw, hw, _⟩ := sA.h1
          refine cl_then (ref8_Clone hw (by simp [spT]; omega)) ?_
          rintro pd' hB ⟨f4, d4, m4⟩
          have sB := (sA.alloc (plSp pd' (spT ps)) m4 d4).dn3
          exact ⟨pc', pd', rfl, g, ps, g, ps, wa.mono (by omega), wa.mono (by omega), sB.up4.drop.up4.drop⟩
        rw [if_neg hk3]
        simp only [r1, kv_some]
        obtain ⟨fq, hq, kq⟩ := s8.head
        have hn := Tab.nd hq
        refine cl_then (table_Get hq (wa.tw.vals hn) o.key) ?_
        rintro r hA ⟨eA, rfl⟩
        rw [eA]
        simp only [extract_tuple, List.getElem?_toArray, List.getElem?_cons_zero, List.getElem?_cons_succ, kv_some, r1]
        obtain ⟨fw, hw, kw⟩ := s8.h1
        refine cl_then (ref8_Get hw o.key (by simp only [spT]; omega)) ?_
        rintro r hB ⟨eB, rfl⟩
        rw [eB]
        have eb : getE o.key g = (hitP o.key (spT ps).pairs).map fun q => str q.val := wa.tw.same _
        rw [eb]
        simp only [extract_tuple, List.getElem?_toArray, List.getElem?_cons_zero, List.getElem?_cons_succ, kv_some]
        have e7 : ∃ x, ((hitP o.key (spT ps).pairs).map fun q => str q.val).getD (str ⟨#[]⟩) = str x := by
          cases hitP o.key (spT ps).pairs with
          | none => exact ⟨_, rfl⟩
          | some q => exact ⟨_, rfl⟩
        obtain ⟨x, e7⟩ := e7
        simp only [e7, str_neq, decide_true, Bool.not_true, kv_some, gdV_bool, if_true, Option.isSome_map, bin_bool_ne, beq_self_eq_true, pickV_bool, Bool.false_eq_true, if_false, ifV_bool]
        exact ⟨pc, pd, rfl, g, ps, g2, ps2, wa.mono (by omega), wb.mono (by omega), s8⟩
    · rw [if_neg h90]
      trivial
  · have hx' : ¬ ((i : Int) < (l.length : Nat)) := by omega
    simp only [hx', decide_false, Bool.false_eq_true, if_false, kv_some, pickV_bool, ifV_bool]

end Go.Abs

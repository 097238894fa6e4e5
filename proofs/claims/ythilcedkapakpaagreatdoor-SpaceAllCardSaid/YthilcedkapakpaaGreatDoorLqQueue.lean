/- QueueAll, on abstract heaps. -/
import Derived.Test.YthilcedkapakpaaGreatDoorRep20
import Derived.Test.YthilcedkapakpaaGreatDoorLawA
set_option linter.unusedSimpArgs false
set_option linter.unusedVariables false
namespace Go.Abs
open Go
variable {E E0 : FE} {h : AHeap} {X : Fr} {L : List Pl} {p pw : V} {most next : Int} {items lost : List Msg}

/-- What a queue's messages are. -/
structure WQ (most next : Int) (items lost : List Msg) (k : Nat) : Prop where
  m1 : 1 ≤ most ∧ most ≤ 9
  n1 : 1 ≤ next ∧ next ≤ k + 1
  len : items.length + lost.length ≤ 64
  its : ∀ m ∈ items, 1 ≤ m.id ∧ 0 ≤ m.count ∧ m.count ≤ 9

theorem recvL_len (most now ticks : Int) : ∀ l : List Msg, (recvL most now ticks l).1.length + (recvL most now ticks l).2.1.length = l.length
  | [] => rfl
  | m :: l => by
    have ih := recvL_len most now ticks l
    simp only [recvL]
    split
    · simp; omega
    · split
      · simp; omega
      · simp

theorem recvL_its {most now ticks : Int} (hm : most ≤ 9) : ∀ l : List Msg, (∀ m ∈ l, 1 ≤ m.id ∧ 0 ≤ m.count ∧ m.count ≤ 9) → ∀ m ∈ (recvL most now ticks l).1, 1 ≤ m.id ∧ 0 ≤ m.count ∧ m.count ≤ 9
  | [], _, m, hm => by simp [recvL] at hm
  | a :: l, hl, m, hm' => by
    have ih := recvL_its (now := now) (ticks := ticks) hm l fun x hx => hl x (by simp [hx])
    have ha := hl a (by simp)
    simp only [recvL] at hm'
    split at hm'
    · simp only [List.mem_cons] at hm'
      rcases hm' with rfl | hm'
      · exact ha
      · exact ih m hm'
    · split at hm'
      · exact ih m hm'
      · rename_i hc
        simp only [List.mem_cons] at hm'
        rcases hm' with rfl | hm'
        · simp only; omega
        · exact hl m (by simp [hm'])

theorem WQ.send {k : Nat} (w : WQ most next items lost k) (x : ByteArray) (hl : items.length + lost.length < 64) : WQ most (next + 1) (items ++ [⟨next, x, 0, 0⟩]) lost (k + 1) :=
  ⟨w.m1, by have := w.n1; omega, by simp; omega, fun m hm => by
    simp only [List.mem_append, List.mem_singleton] at hm
    rcases hm with hm | rfl
    · exact w.its m hm
    · have := w.n1; simp only; omega⟩

theorem WQ.recv {k : Nat} (w : WQ most next items lost k) (now ticks : Int) : WQ most next (recvL most now ticks items).1 (lost ++ (recvL most now ticks items).2.1) k :=
  ⟨w.m1, w.n1, by have := recvL_len most now ticks items; have := w.len; simp; omega, recvL_its w.m1.2 _ w.its⟩

theorem WQ.ack {k : Nat} (w : WQ most next items lost k) (i : Nat) : WQ most next (items.eraseIdx i) lost k :=
  ⟨w.m1, w.n1, by have := w.len; have := List.length_eraseIdx_le items i; omega, fun m hm => w.its m (List.mem_of_mem_eraseIdx hm)⟩

theorem WQ.dead {k : Nat} (w : WQ most next items lost k) : WQ most next items lost.tail k :=
  ⟨w.m1, w.n1, by have := w.len; simp; omega, w.its⟩

theorem WQ.mono {k k' : Nat} (w : WQ most next items lost k) (h : k ≤ k') : WQ most next items lost k' := ⟨w.m1, by have := w.n1; omega, w.len, w.its⟩

def spOf (most next : Int) (items lost : List Msg) : SpM := ⟨⟨#[]⟩, 2, [], most, items, lost, next⟩

/-- The queue's and the document's messages are the same. -/
theorem cmp_items (s : Sep X h (plQu p most next items lost :: plSp pw (spOf most next items lost) :: L)) (hsz : items.length ≤ 1000000) (K : V → AHeap → Prop)
    (hK : ∀ h', Sep X h' (plQu p most next items lost :: plSp pw (spOf most next items lost) :: L) → K (.bool true) h') :
    kv (aNil pw) fun v151 => kv (fieldAddrD (some 4) v151) fun v152 => kv (ldD .one v152 h) fun v153 => cl (F.queue_Queue_Items E) [p] h fun v149 h =>
      ldD .one v152 h = some v153 ∧ cl (F.estafettelaw8_msgs E) [v149, v153] h K := by
  obtain ⟨a, hq, k1⟩ := s.head
  obtain ⟨a2, ⟨b, fP, fI, fL, vP, vI, vL, rfl, rfl, c⟩, k2⟩ := s.up1.head
  simp only [aNil_ptr, kv_some, fieldAddr_ptr, ld_one, Nat.zero_add, rd_of c.cell, List.getElem?_cons_succ, List.getElem?_cons_zero]
  refine cl_then (queue_Items hq hsz) ?_
  rintro r h2 ⟨f, ms, m⟩
  have c2 : SpC h2 b fP fI fL vP vI vL (spOf most next items lost) := c.same m.next fun x hx => m.same x (c.lt x hx) (by simp)
  simp only [rd_of c2.cell, List.getElem?_cons_succ, List.getElem?_cons_zero, true_and]
  refine cl_then (law_msgs ms c2.items hsz) ?_
  rintro r h3 ⟨rfl, rfl⟩
  exact hK _ (s.skip m)

theorem cmp_lost (s : Sep X h (plQu p most next items lost :: plSp pw (spOf most next items lost) :: L)) (hsz : lost.length ≤ 1000000) (K : V → V → AHeap → Prop)
    (hK : ∀ x h', Sep X h' (plQu p most next items lost :: plSp pw (spOf most next items lost) :: L) → K x (.bool true) h') :
    kv (aNil pw) fun v151 => kv (fieldAddrD (some 5) v151) fun v152 => kv (ldD .one v152 h) fun v153 => gdC (.bool false) false h (fun K1 => cl (F.queue_Queue_Lost E) [p] h fun v149 h =>
      ldD .one v152 h = some v153 ∧ K1 v149 h) fun v149 h => gdC (.bool false) false h (fun K1 => cl (F.estafettelaw8_msgs E) [v149, v153] h fun v h => K1 v h) (K v153) := by
  obtain ⟨a, hq, k1⟩ := s.head
  obtain ⟨a2, ⟨b, fP, fI, fL, vP, vI, vL, rfl, rfl, c⟩, k2⟩ := s.up1.head
  simp only [aNil_ptr, kv_some, fieldAddr_ptr, ld_one, Nat.zero_add, rd_of c.cell, List.getElem?_cons_succ, List.getElem?_cons_zero]
  refine gdC_yes rfl (cl_then (queue_Lost hq hsz) ?_)
  rintro r h2 ⟨f, ms, m⟩
  have c2 : SpC h2 b fP fI fL vP vI vL (spOf most next items lost) := c.same m.next fun x hx => m.same x (c.lt x hx) (by simp)
  simp only [rd_of c2.cell, List.getElem?_cons_succ, List.getElem?_cons_zero, true_and]
  refine gdC_yes rfl (cl_then (law_msgs ms c2.lost hsz) ?_)
  rintro r h3 ⟨rfl, rfl⟩
  exact hK _ _ (s.skip m)

theorem cmp_items_g (s : Sep X h (plQu p most next items lost :: plSp pw (spOf most next items lost) :: L)) (hsz : items.length ≤ 1000000) (K : V → V → AHeap → Prop)
    (hK : ∀ x h', Sep X h' (plQu p most next items lost :: plSp pw (spOf most next items lost) :: L) → K x (.bool true) h') :
    kv (aNil pw) fun v151 => kv (fieldAddrD (some 4) v151) fun v152 => kv (ldD .one v152 h) fun v153 => gdC (.bool false) false h (fun K1 => cl (F.queue_Queue_Items E) [p] h fun v149 h =>
      ldD .one v152 h = some v153 ∧ K1 v149 h) fun v149 h => gdC (.bool false) false h (fun K1 => cl (F.estafettelaw8_msgs E) [v149, v153] h fun v h => K1 v h) (K v153) := by
  obtain ⟨a, hq, k1⟩ := s.head
  obtain ⟨a2, ⟨b, fP, fI, fL, vP, vI, vL, rfl, rfl, c⟩, k2⟩ := s.up1.head
  simp only [aNil_ptr, kv_some, fieldAddr_ptr, ld_one, Nat.zero_add, rd_of c.cell, List.getElem?_cons_succ, List.getElem?_cons_zero]
  refine gdC_yes rfl (cl_then (queue_Items hq hsz) ?_)
  rintro r h2 ⟨f, ms, m⟩
  have c2 : SpC h2 b fP fI fL vP vI vL (spOf most next items lost) := c.same m.next fun x hx => m.same x (c.lt x hx) (by simp)
  simp only [rd_of c2.cell, List.getElem?_cons_succ, List.getElem?_cons_zero, true_and]
  refine gdC_yes rfl (cl_then (law_msgs ms c2.items hsz) ?_)
  rintro r h3 ⟨rfl, rfl⟩
  exact hK _ _ (s.skip m)

theorem cmp_next (s : Sep X h (plQu p most next items lost :: plSp pw (spOf most next items lost) :: L)) (K : V → V → AHeap → Prop)
    (hK : K (i64 next) (i64 next) h) :
    kv (aNil pw) fun v151 => kv (fieldAddrD (some 6) v151) fun v152 => kv (ldD .one v152 h) fun v153 => gdC (.bool false) false h (fun K1 => cl (F.queue_Queue_Next E) [p] h fun v149 h =>
      ldD .one v152 h = some v153 ∧ K1 v149 h) (K v153) := by
  obtain ⟨a, hq, k1⟩ := s.head
  obtain ⟨a2, ⟨b, fP, fI, fL, vP, vI, vL, rfl, rfl, c⟩, k2⟩ := s.up1.head
  simp only [aNil_ptr, kv_some, fieldAddr_ptr, ld_one, Nat.zero_add, rd_of c.cell, List.getElem?_cons_succ, List.getElem?_cons_zero]
  refine gdC_yes rfl (cl_then (queue_Next hq) ?_)
  rintro r h2 ⟨rfl, rfl⟩
  simp only [rd_of c.cell, List.getElem?_cons_succ, List.getElem?_cons_zero, true_and]
  exact hK

/-- What stands behind each operation. -/
def QueueSt (N : Nat) (v : V) (l : List OpA) (pq pw : V) (m : Int) (k : Nat) (pc pd : V) (h : AHeap) (R : List Pl) : Prop :=
  ∃ n its los n2 its2 los2, WQ m n its los k ∧ WQ m n2 its2 los2 k ∧
    Sep (frOps N v l) h (plQu pq m n its los :: plSp pw (spOf m n its los) :: plQu pc m n2 its2 los2 :: plSp pd (spOf m n2 its2 los2) :: R)

theorem law_QueueAll {E0 : FE} (hM : MonoI E.I) (hE : E.I (E.k 0) = some (cl (F.queue_Queue_Ack_1 E0))) {v : V} {l : List OpA} (s : Ops h.next h v l) (most : Int) :
    F.estafettelaw8_QueueAll E [i64 most, v] h fun v _ => v = .bool true := by
  simp only [F.estafettelaw8_QueueAll]
  refine cl_of ⟨rfl, ?_⟩
  simp only [not_bool, kv_some, ifV_bool, Bool.not_true, Bool.false_eq_true, if_false]
  have s0 : Sep (frOps h.next v l) h [] := ⟨Nat.le_refl _, s, [], rfl⟩
  generalize h.next = N at s0
  clear s
  have em : max 1 (min most 9) = min (max most 1) 9 := by omega
  refine cl_then (queue_New most) ?_
  rintro pq h1 ⟨f1, q1, m1⟩
  have s1 := s0.alloc (plQu pq (min (max most 1) 9) 1 [] []) m1 q1
  refine cl_then (ref8_New 2 most) ?_
  rintro pw h2 ⟨f2, w2, m2⟩
  rw [em] at w2
  have hm : 1 ≤ min (max most 1) 9 ∧ min (max most 1) 9 ≤ 9 := by omega
  generalize min (max most 1) 9 = m at s1 w2 hm
  have s2 := (s1.alloc (plSp pw (spOf m 1 [] [])) m2 w2).up1
  obtain ⟨fq, hq, _⟩ := s2.head
  refine cl_then (queue_Clone hq (by simp)) ?_
  rintro pc h3 ⟨f3, c3, m3⟩
  have s3 := (s2.alloc (plQu pc m 1 [] []) m3 c3).dn2
  obtain ⟨fw, hw, _⟩ := s3.up1.head
  refine cl_then (ref8_Clone hw (by simp [spOf])) ?_
  rintro pd h4 ⟨f4, d4, m4⟩
  have s4 := (s3.alloc (plSp pd (spOf m 1 [] [])) m4 d4).dn3
  have w0 : WQ m 1 [] [] 0 := ⟨hm, by omega, by simp, by simp⟩
  refine ⟨fun k vs h' => ∃ (i : Nat) (pc pd : V), i ≤ l.length ∧ k = l.length - i ∧ vs = [pc, pd, i64 i] ∧ QueueSt N v l pq pw m i pc pd h' [], l.length,
    ⟨0, pc, pd, by omega, by omega, rfl, 1, [], [], 1, [], [], w0, w0, s4⟩, ?_⟩
  rintro k e h5 ⟨i, pc, pd, hi, rfl, he, n, its, los, n2, its2, los2, wa, wb, s5⟩
  simp only [List.cons.injEq, and_true] at he
  obtain ⟨e1, e2, e3⟩ := he
  have hI : Ops N h5 v l := s5.2.1
  simp only [e1, e2, e3, Ro.len hI h5, kv_some, bin_lss, gdV_bool]
  by_cases hx : i < l.length
  · have hx' : ((i : Int) < (l.length : Nat)) := by omega
    simp only [hx', decide_true, if_true, kv_some, bin_lss, pickV_bool, ifV_bool, decide_eq_true_eq]
    by_cases h90 : (i : Int) < 90
    · rw [if_pos h90]
      obtain ⟨o, ho⟩ : ∃ o, l[i]? = some o := ⟨l[i], by simp [hx]⟩
      obtain ⟨b, off, ex, er⟩ := hI.row ho
      simp only [ex, kv_some, er, new6, kP_some]
      have s6 := (s5.box [.int .i64 0, .string ⟨#[]⟩, .string ⟨#[]⟩, .int .i64 0, .int .i64 0, .int .i64 0] 6)
      have g6 := s6.get
      rw [st6 g6, kH_some]
      have s7 := s6.write (cs' := o.cells)
      have g7 := s7.get
      generalize (h5.new (.cells [.int .i64 0, .string ⟨#[]⟩, .string ⟨#[]⟩, .int .i64 0, .int .i64 0, .int .i64 0] 6 .rw)).put h5.next (.cells o.cells 6 .rw) = h7 at s7 g7
      generalize h5.next = bo at s7 g7
      have s8 := s7.dn4
      have rd : ∀ {h' : AHeap}, h'.get bo = some (.cells o.cells 6 .rw) → h'.rd bo 0 = some (i64 o.kind) ∧ h'.rd bo 2 = some (str o.val) ∧ h'.rd bo 3 = some (i64 o.a) ∧ h'.rd bo 4 = some (i64 o.b) ∧ h'.rd bo 5 = some (i64 o.now) := fun hg => ⟨rd_of hg 0, rd_of hg 2, rd_of hg 3, rd_of hg 4, rd_of hg 5⟩
      obtain ⟨r0, r2, r3, r4, r5⟩ := rd g7
      simp only [fieldAddr_ptr, kv_some, ld_one, Nat.zero_add, r0]
      refine ⟨fun vs h' => ∃ pc pd, vs = [pc, pd] ∧ QueueSt N v l pq pw m (i + 1) pc pd h' [plBox bo o.cells 6], ?_, ?_⟩
      rotate_left
      · rintro e9 h9 ⟨pc, pd, he9, n, its, los, n2, its2, los2, wa, wb, s9⟩
        simp only [List.cons.injEq, and_true] at he9
        obtain ⟨e4, e5⟩ := he9
        simp only [e4, e5]
        have la := wa.len
        have lb := wb.len
        refine cmp_items s9 (by omega) _ fun h10 s10 => ?_
        simp only [not_bool, Bool.not_true, kv_some, gdV_bool, if_true]
        refine cmp_lost s10 (by omega) (fun _ => _) fun x h11 s11 => ?_
        simp only [not_bool, Bool.not_true, kv_some, gdV_bool, if_true, pickV_bool, Bool.false_eq_true, if_false]
        refine cmp_next s11 (fun _ => _) ?_
        simp only [bin_neq, bne_self_eq_false, kv_some, gdV_bool, if_true, pickV_bool, Bool.false_eq_true, if_false]
        refine cmp_items_g ((s11.up2).up3).up1 (by omega) (fun _ => _) fun x h12 s12 => ?_
        simp only [not_bool, Bool.not_true, kv_some, gdV_bool, if_true, pickV_bool, Bool.false_eq_true, if_false]
        refine cmp_lost s12 (by omega) (fun _ => _) fun x h13 s13 => ?_
        simp only [not_bool, Bool.not_true, kv_some, gdV_bool, if_true, pickV_bool, Bool.false_eq_true, if_false, ifV_bool]
        rw [add_i64 _ 1 (by omega) (by omega), kv_some]
        exact ⟨l.length - (i + 1), by omega, i + 1, pc, pd, by omega, rfl, by simp, n, its, los, n2, its2, los2, wa, wb, (((s13.up2).up3).up1).up4.drop⟩
      · simp only [bin_eql, kv_some]
        refine ⟨fun vs h' => vs = [.bool (o.kind == 0 || o.kind == 1)] ∧ h' = h7, ?_, ?_⟩
        · cases hk : (o.kind == 0)
          · simp only [ifV_bool, Bool.false_eq_true, if_false, Bool.false_or]
            exact ⟨trivial, trivial⟩
          · simp only [ifV_bool, if_true, Bool.true_or]
            exact ⟨trivial, trivial⟩
        rintro e8 h8 ⟨he8, rfl⟩
        simp only [List.cons.injEq, and_true] at he8
        rw [he8]
        have la := wa.len
        have lb := wb.len
        simp only [ifV_bool]
        by_cases hk : (o.kind == 0 || o.kind == 1) = true
        · rw [if_pos hk]
          simp only [r2, kv_some]
          obtain ⟨fq, hq, kq⟩ := s8.head
          refine cl_then (queue_Send hq o.val (by have := wa.n1; omega) (by omega)) ?_
          rintro r hA hr
          have n1 := wa.n1
          by_cases hl : its.length + los.length < 64
          · rw [if_pos hl] at hr
            obtain ⟨rfl, fA, qA, mA⟩ := hr
            have sA := kq (plQu pq m (n + 1) (its ++ [(⟨n, o.val, 0, 0⟩ : Msg)]) los) mA qA
            obtain ⟨_, rA, _⟩ := rd (sA.getM (b := bo) (by simp))
            simp only [extract_tuple, List.getElem?_toArray, List.getElem?_cons_zero, List.getElem?_cons_succ, kv_some, rA]
            obtain ⟨fw, hw, kw⟩ := sA.h1
            refine cl_then (ref8_Send hw o.val (by simp only [spOf]; omega) (by simp only [spOf]; omega)) ?_
            rintro r hB hr
            have hl' : (spOf m n its los).items.length + (spOf m n its los).lost.length < 64 := hl
            rw [if_pos hl'] at hr
            obtain ⟨rfl, fB, wB, mB⟩ := hr
            have sB := kw (plSp pw (spOf m (n + 1) (its ++ [(⟨n, o.val, 0, 0⟩ : Msg)]) los)) mB wB
            simp only [show (spOf m n its los).next = n from rfl, extract_tuple, List.getElem?_toArray, List.getElem?_cons_zero, List.getElem?_cons_succ, kv_some, bin_neq, bne_self_eq_false, gdV_bool, if_true, bin_bool_ne, beq_self_eq_true, Bool.not_true, pickV_bool, Bool.false_eq_true, if_false, ifV_bool]
            exact ⟨pc, pd, rfl, n + 1, _, los, n2, its2, los2, wa.send o.val hl, wb.mono (by omega), sB⟩
          · rw [if_neg hl] at hr
            obtain ⟨rfl, rfl⟩ := hr
            simp only [extract_tuple, List.getElem?_toArray, List.getElem?_cons_zero, List.getElem?_cons_succ, kv_some, r2]
            obtain ⟨fw, hw, kw⟩ := s8.h1
            refine cl_then (ref8_Send hw o.val (by simp only [spOf]; omega) (by simp only [spOf]; omega)) ?_
            rintro r hB hr
            have hl' : ¬ (spOf m n its los).items.length + (spOf m n its los).lost.length < 64 := hl
            rw [if_neg hl'] at hr
            obtain ⟨rfl, rfl⟩ := hr
            simp only [show (spOf m n its los).next = n from rfl, extract_tuple, List.getElem?_toArray, List.getElem?_cons_zero, List.getElem?_cons_succ, kv_some, bin_neq, bne_self_eq_false, gdV_bool, if_true, bin_bool_ne, beq_self_eq_true, Bool.not_true, pickV_bool, Bool.false_eq_true, if_false, ifV_bool]
            exact ⟨pc, pd, rfl, n, its, los, n2, its2, los2, wa.mono (by omega), wb.mono (by omega), s8⟩
        rw [if_neg hk]
        refine ⟨fun vs h' => vs = [.bool (o.kind == 2 || o.kind == 3)] ∧ h' = h8, ?_, ?_⟩
        · cases hk : (o.kind == 2)
          · simp only [ifV_bool, Bool.false_eq_true, if_false, Bool.false_or, bin_eql, kv_some]
            exact ⟨trivial, trivial⟩
          · simp only [ifV_bool, if_true, Bool.true_or]
            exact ⟨trivial, trivial⟩
        rintro e9 hC ⟨he8, rfl⟩
        simp only [List.cons.injEq, and_true] at he8
        rw [he8]
        simp only [ifV_bool]
        by_cases hk2 : (o.kind == 2 || o.kind == 3) = true
        · rw [if_pos hk2]
          simp only [r5, r3, kv_some]
          obtain ⟨fq, hq, kq⟩ := s8.head
          have hcnt : ∀ m ∈ its, 0 ≤ m.count ∧ m.count ≤ 1000000 := fun m hm => by have := wa.its m hm; omega
          refine cl_then (queue_Recv hq o.now o.a (by omega) hcnt) ?_
          rintro r hA hr
          by_cases hbad : o.a < 1 ∨ o.a > 1000 ∨ o.now < 0 ∨ o.now > 1099511627776
          · rw [if_pos hbad] at hr
            obtain ⟨rfl, qA, mA⟩ := hr
            have sA := kq (plQu pq m n its los) mA qA
            simp only [extract_tuple, List.getElem?_toArray, List.getElem?_cons_zero, List.getElem?_cons_succ, kv_some]
            refine box_msg sA _ fun b1 h1 s1 => ?_
            obtain ⟨_, _, a3, _, a5⟩ := rd (s1.getM (b := bo) (by simp))
            simp only [a3, a5, kv_some]
            obtain ⟨fw, hw, kw⟩ := s1.h2
            refine cl_then (ref8_Recv hw o.now o.a (by simp only [spOf]; omega) hcnt fun m hm => (wa.its m hm).1) ?_
            rintro r hB hr
            rw [if_pos hbad] at hr
            obtain ⟨rfl, wB, mB⟩ := hr
            have sB := kw (plSp pw (spOf m n its los)) mB wB
            simp only [spOf, extract_tuple, List.getElem?_toArray, List.getElem?_cons_zero, List.getElem?_cons_succ, kv_some]
            refine box_msg sB _ fun b2 h2 s2 => ?_
            rw [ld4 (s2.up1.get), kv_some, ld4 (s2.get), kv_some, msg_same]
            simp only [kv_some, gdV_bool, if_true, bin_bool_ne, beq_self_eq_true, Bool.not_true, pickV_bool, Bool.false_eq_true, if_false, ifV_bool]
            exact ⟨pc, pd, rfl, n, _, _, n2, its2, los2, (wa).mono (by omega), wb.mono (by omega), s2.drop.drop⟩
          · rw [if_neg hbad] at hr
            obtain ⟨rfl, fA, qA, mA⟩ := hr
            have sA := kq (plQu pq m n (recvL m o.now o.a its).1 (los ++ (recvL m o.now o.a its).2.1)) mA qA
            simp only [extract_tuple, List.getElem?_toArray, List.getElem?_cons_zero, List.getElem?_cons_succ, kv_some]
            refine box_msg sA _ fun b1 h1 s1 => ?_
            obtain ⟨_, _, a3, _, a5⟩ := rd (s1.getM (b := bo) (by simp))
            simp only [a3, a5, kv_some]
            obtain ⟨fw, hw, kw⟩ := s1.h2
            refine cl_then (ref8_Recv hw o.now o.a (by simp only [spOf]; omega) hcnt fun m hm => (wa.its m hm).1) ?_
            rintro r hB hr
            rw [if_neg hbad] at hr
            obtain ⟨rfl, fB, wB, mB⟩ := hr
            have sB := kw (plSp pw (spOf m n (recvL m o.now o.a its).1 (los ++ (recvL m o.now o.a its).2.1))) mB wB
            simp only [spOf, extract_tuple, List.getElem?_toArray, List.getElem?_cons_zero, List.getElem?_cons_succ, kv_some]
            refine box_msg sB _ fun b2 h2 s2 => ?_
            rw [ld4 (s2.up1.get), kv_some, ld4 (s2.get), kv_some, msg_same]
            simp only [kv_some, gdV_bool, if_true, bin_bool_ne, beq_self_eq_true, Bool.not_true, pickV_bool, Bool.false_eq_true, if_false, ifV_bool]
            exact ⟨pc, pd, rfl, n, _, _, n2, its2, los2, (wa.recv o.now o.a).mono (by omega), wb.mono (by omega), s2.drop.drop⟩
        rw [if_neg hk2]
        by_cases hk4 : (o.kind == 4) = true
        · rw [if_pos hk4]
          simp only [r3, r4, r5, kv_some]
          obtain ⟨fq, hq, kq⟩ := s8.head
          refine cl_then (queue_Ack hM hE hq o.a o.b o.now (by omega)) ?_
          rintro r hA hr
          cases hf : its.findIdx? (ackP o.a o.b o.now) with
          | none =>
            rw [hf] at hr
            obtain ⟨rfl, qA, mA⟩ := hr
            have sA := kq (plQu pq m n its los) mA qA
            obtain ⟨_, _, a3, a4, a5⟩ := rd (sA.getM (b := bo) (by simp))
            simp only [a3, a4, a5, true_and]
            obtain ⟨fw, hw, kw⟩ := sA.h1
            refine cl_then (ref8_Ack hw o.a o.b o.now (by simp only [spOf]; omega)) ?_
            rintro r hB hr
            simp only [spOf, hf] at hr
            obtain ⟨rfl, wB, mB⟩ := hr
            have sB := kw (plSp pw (spOf m n its los)) mB wB
            simp only [kv_some, bin_bool_ne, beq_self_eq_true, Bool.not_true, ifV_bool, Bool.false_eq_true, if_false]
            exact ⟨pc, pd, rfl, n, its, los, n2, its2, los2, wa.mono (by omega), wb.mono (by omega), sB⟩
          | some j =>
            rw [hf] at hr
            obtain ⟨rfl, qA, mA⟩ := hr
            have sA := kq (plQu pq m n (its.eraseIdx j) los) mA qA
            obtain ⟨_, _, a3, a4, a5⟩ := rd (sA.getM (b := bo) (by simp))
            simp only [a3, a4, a5, true_and]
            obtain ⟨fw, hw, kw⟩ := sA.h1
            refine cl_then (ref8_Ack hw o.a o.b o.now (by simp only [spOf]; omega)) ?_
            rintro r hB hr
            simp only [spOf, hf] at hr
            obtain ⟨rfl, fB, wB, mB⟩ := hr
            have sB := kw (plSp pw (spOf m n (its.eraseIdx j) los)) mB wB
            simp only [kv_some, bin_bool_ne, beq_self_eq_true, Bool.not_true, ifV_bool, Bool.false_eq_true, if_false]
            exact ⟨pc, pd, rfl, n, _, los, n2, its2, los2, (wa.ack j).mono (by omega), wb.mono (by omega), sB⟩
        rw [if_neg hk4]
        by_cases hk5 : (o.kind == 5) = true
        · rw [if_pos hk5]
          obtain ⟨fq, hq, kq⟩ := s8.head
          refine cl_then (queue_Dead hq (by omega)) ?_
          rintro r hA hr
          obtain ⟨rfl, sA⟩ : r = .tuple #[(los.head?.getD Msg.zero).agg, .bool (!los.isEmpty)] ∧ Sep (frOps N v l) hA (plQu pq m n its los.tail :: plSp pw (spOf m n its los) :: plQu pc m n2 its2 los2 :: plSp pd (spOf m n2 its2 los2) :: [plBox bo o.cells 6]) := by
            cases los with
            | nil => obtain ⟨rfl, qA, mA⟩ := hr; exact ⟨rfl, kq _ mA qA⟩
            | cons a los => obtain ⟨rfl, qA, mA⟩ := hr; exact ⟨rfl, kq _ mA qA⟩
          simp only [extract_tuple, List.getElem?_toArray, List.getElem?_cons_zero, List.getElem?_cons_succ, kv_some]
          refine box_msg sA _ fun b1 h1 s1 => ?_
          obtain ⟨fw, hw, kw⟩ := s1.h2
          refine cl_then (ref8_Dead hw (by simp only [spOf]; omega)) ?_
          rintro r hB ⟨fB, rfl, wB, mB⟩
          have sB := kw (plSp pw (spOf m n its los.tail)) mB wB
          simp only [spOf, extract_tuple, List.getElem?_toArray, List.getElem?_cons_zero, List.getElem?_cons_succ, kv_some]
          refine box_msg sB _ fun b2 h2 s2 => ?_
          rw [ld4 (s2.up1.get), kv_some, ld4 (s2.get), kv_some, msg_same]
          simp only [kv_some, gdV_bool, if_true, bin_bool_ne, beq_self_eq_true, Bool.not_true, pickV_bool, Bool.false_eq_true, if_false, ifV_bool]
          exact ⟨pc, pd, rfl, n, its, los.tail, n2, its2, los2, wa.dead.mono (by omega), wb.mono (by omega), s2.drop.drop⟩
        rw [if_neg hk5]
        obtain ⟨fq, hq, kq⟩ := s8.head
        refine cl_then (queue_Clone hq (by omega)) ?_
        rintro pc' hA ⟨f3, c3, m3⟩
        have sA := (s8.alloc (plQu pc' m n its los) m3 c3).dn2
        obtain ⟨fw, hw, _⟩ := sA.h1
        refine cl_then (ref8_Clone hw (by simp [spOf]; omega)) ?_
        rintro pd' hB ⟨f4, d4, m4⟩
        have sB := (sA.alloc (plSp pd' (spOf m n its los)) m4 d4).dn3
        exact ⟨pc', pd', rfl, n, its, los, n, its, los, wa.mono (by omega), wa.mono (by omega), sB.up4.drop.up4.drop⟩
    · rw [if_neg h90]
      trivial
  · have hx' : ¬ ((i : Int) < (l.length : Nat)) := by omega
    simp only [hx', decide_false, Bool.false_eq_true, if_false, kv_some, pickV_bool, ifV_bool]

end Go.Abs

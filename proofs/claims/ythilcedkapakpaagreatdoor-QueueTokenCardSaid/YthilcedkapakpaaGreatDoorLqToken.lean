/- QueueToken, on abstract heaps. -/
import Derived.Test.YthilcedkapakpaaGreatDoorLaw0
namespace Go.Abs
open Go
variable {E E0 : FE} {h : AHeap}

theorem law_QueueToken (hM : MonoI E.I) (hE : E.I (E.k 0) = some (cl (F.queue_Queue_Ack_1 E0))) (a b now : Int) :
    F.estafettelaw8_QueueToken E [i64 a, i64 b, i64 now] h fun v _ => v = .bool true := by
  simp only [F.estafettelaw8_QueueToken]
  refine cl_of ⟨rfl, ?_⟩
  simp only [not_bool, kv_some, ifV_bool, Bool.not_true, Bool.false_eq_true, if_false]
  refine cl_then (queue_New 9) ?_
  rintro p h1 ⟨f1, q1, m1⟩
  refine cl_then (queue_Send q1 ⟨#[120]⟩ (by decide) (by decide)) ?_
  intro v h2 hs
  simp only [List.length_nil, Nat.add_zero, Nat.zero_lt_succ, if_true] at hs
  obtain ⟨rfl, f2, q2, m2⟩ := hs
  refine cl_then (queue_Recv q2 10 5 (by decide) (by simp)) ?_
  intro v h3 hs
  rw [if_neg (by decide)] at hs
  have e1 : recvL (min (max 9 1) 9) 10 5 ([] ++ [⟨1, ⟨#[120]⟩, 0, 0⟩]) = ([⟨1, ⟨#[120]⟩, 1, 15⟩], [], some ⟨1, ⟨#[120]⟩, 1, 15⟩) := rfl
  rw [e1] at hs
  obtain ⟨rfl, f3, q3, m3⟩ := hs
  have n4 := fun (g : AHeap) => new4 (h := g) (.int .i64 0) (.string ⟨#[]⟩) (.int .i64 0) (.int .i64 0)
  simp only [extract_tuple, n4, kP_some, kv_some, Option.getD_some, Option.isSome_some, List.getElem?_toArray, List.getElem?_cons_zero, List.getElem?_cons_succ]
  have lt3 := q3.lt
  generalize hb1 : h3.new (.cells [.int .i64 0, .string ⟨#[]⟩, .int .i64 0, .int .i64 0] 4 .rw) = g1
  have gb1 : g1.get h3.next = some (.cells [.int .i64 0, .string ⟨#[]⟩, .int .i64 0, .int .i64 0] 4 .rw) := by rw [← hb1]; simp
  rw [st4 gb1, kH_some]
  generalize hb2 : g1.put h3.next (.cells (Msg.cells ⟨1, ⟨#[120]⟩, 1, 15⟩) 4 .rw) = g2
  have gb2 : g2.get h3.next = some (.cells (Msg.cells ⟨1, ⟨#[120]⟩, 1, 15⟩) 4 .rw) := by rw [← hb2]; simp
  have gn2 : g2.next = h3.next + 1 := by rw [← hb2, ← hb1]; simp
  have q4 := q3.mod (h' := g2) (by omega) (fun x hx => by rw [← hb2, ← hb1]; simp [Nat.ne_of_lt hx])
  refine cl_then (queue_Recv q4 15 5 (by decide) (by decide)) ?_
  intro v h5 hs
  rw [if_neg (by decide)] at hs
  have e2 : recvL (min (max 9 1) 9) 15 5 [⟨1, ⟨#[120]⟩, 1, 15⟩] = ([⟨1, ⟨#[120]⟩, 2, 20⟩], [], some ⟨1, ⟨#[120]⟩, 2, 20⟩) := rfl
  rw [e2] at hs
  obtain ⟨rfl, f5, q5, m5⟩ := hs
  simp only [extract_tuple, n4, kP_some, kv_some, Option.getD_some, Option.isSome_some, List.getElem?_toArray, List.getElem?_cons_zero, List.getElem?_cons_succ]
  have k5 : h5.get h3.next = some (.cells (Msg.cells ⟨1, ⟨#[120]⟩, 1, 15⟩) 4 .rw) := by rw [m5.same _ (by omega) fun hx => Nat.lt_irrefl _ (lt3 _ hx), gb2]
  have n5 : h3.next < h5.next := by have := m5.next; omega
  generalize hb3 : h5.new (.cells [.int .i64 0, .string ⟨#[]⟩, .int .i64 0, .int .i64 0] 4 .rw) = g3
  have gb3 : g3.get h5.next = some (.cells [.int .i64 0, .string ⟨#[]⟩, .int .i64 0, .int .i64 0] 4 .rw) := by rw [← hb3]; simp
  rw [st4 gb3, kH_some]
  generalize hb4 : g3.put h5.next (.cells (Msg.cells ⟨1, ⟨#[120]⟩, 2, 20⟩) 4 .rw) = g4
  have gb4 : g4.get h5.next = some (.cells (Msg.cells ⟨1, ⟨#[120]⟩, 2, 20⟩) 4 .rw) := by rw [← hb4]; simp
  have gx4 : g4.get h3.next = some (.cells (Msg.cells ⟨1, ⟨#[120]⟩, 1, 15⟩) 4 .rw) := by rw [← hb4, ← hb3]; simp [Nat.ne_of_lt n5, k5]
  have q6 := q5.mod (h' := g4) (by rw [← hb4, ← hb3]; simp) (fun x hx => by rw [← hb4, ← hb3]; simp [Nat.ne_of_lt hx])
  obtain ⟨w, ew, _, _⟩ := and_mask (k := .bad) (c := true) (h := g4) now 31 (by decide) (by decide)
  obtain ⟨x, ex, _, _⟩ := and_mask (k := .bad) (c := true) (h := g4) a 3 (by decide) (by decide)
  obtain ⟨y, ey, _, _⟩ := and_mask (k := .bad) (c := true) (h := g4) b 3 (by decide) (by decide)
  simp only [not_bool, kv_some, gdV_bool, if_true, pickV_bool, ifV_bool, Bool.not_true, Bool.false_eq_true, if_false, ew, ex, ey, bin_eql, fieldAddr_ptr, ld_one, rd_of gb4, rd_of gx4, Msg.cells, List.getElem?_cons_zero, List.getElem?_cons_succ, Nat.zero_add]
  have fin : ∀ (want : Bool), ackP x y w ⟨1, ⟨#[120]⟩, 2, 20⟩ = want →
      cl (F.queue_Queue_Ack E) [p, i64 x, i64 y, i64 w] g4 fun v69 h =>
        kv (binD .bool .eql false v69 (.bool want) h) fun v71 =>
        kv (pickV (.bool true) v71 (.bool false)) fun v72_45 =>
        kv (gdV v72_45 true (some p)) fun v74_46 =>
        gdC v72_45 true h (fun K47 => cl (F.queue_Queue_Items E) [v74_46] h fun v h => K47 v h) fun v75_48 h =>
        kv (gdV v72_45 true (lenD .slice v75_48 h)) fun v76_49 =>
        kv (gdV v72_45 true (some (.bool want))) fun v77_50 =>
        gdC v72_45 true h (fun K51 => cl (F.estafettelaw8_one E) [v77_50] h fun v h => K51 v h) fun v78_52 h =>
        kv (gdV v72_45 true (binD .bad .sub true (.int .i64 1) v78_52 h)) fun v79_53 =>
        kv (gdV v72_45 true (binD .bad .eql false v76_49 v79_53 h)) fun v80_54 =>
        kv (pickV v72_45 v80_54 (.bool false)) fun v81_55 => v81_55 = .bool true := by
    intro want hw
    refine cl_then (queue_Ack hM hE q6 x y w (by decide)) ?_
    intro r h7 hs
    have go : ∀ l, r = .bool want → Qu h7 f5 p (min (max 9 1) 9) (1 + 1) l [] → l.length = 1 - (if want then 1 else 0) →
        kv (binD .bool .eql false r (.bool want) h7) fun v71 =>
        kv (pickV (.bool true) v71 (.bool false)) fun v72_45 =>
        kv (gdV v72_45 true (some p)) fun v74_46 =>
        gdC v72_45 true h7 (fun K47 => cl (F.queue_Queue_Items E) [v74_46] h7 fun v h => K47 v h) fun v75_48 h =>
        kv (gdV v72_45 true (lenD .slice v75_48 h)) fun v76_49 =>
        kv (gdV v72_45 true (some (.bool want))) fun v77_50 =>
        gdC v72_45 true h (fun K51 => cl (F.estafettelaw8_one E) [v77_50] h fun v h => K51 v h) fun v78_52 h =>
        kv (gdV v72_45 true (binD .bad .sub true (.int .i64 1) v78_52 h)) fun v79_53 =>
        kv (gdV v72_45 true (binD .bad .eql false v76_49 v79_53 h)) fun v80_54 =>
        kv (pickV v72_45 v80_54 (.bool false)) fun v81_55 => v81_55 = .bool true := by
      rintro l rfl q7 hl
      simp only [bin_bool_eq, beq_self_eq_true, kv_some, pickV_bool, if_true, gdV_bool]
      refine gdC_yes rfl (cl_then (queue_Items q7 (by rw [hl]; split <;> omega)) ?_)
      rintro r h8 ⟨f8, s8, _⟩
      simp only [s8.len, kv_some]
      refine gdC_yes rfl (cl_then (law_one want) ?_)
      rintro r h9 ⟨rfl, rfl⟩
      simp only [bin_sub, kv_some, bin_eql, hl]
      cases want <;> rfl
    cases want with
    | true =>
      have e3 : ([⟨1, ⟨#[120]⟩, 2, 20⟩] : List Msg).findIdx? (ackP x y w) = some 0 := by simp [List.findIdx?_cons, hw]
      simp only [e3] at hs
      exact go _ hs.1 hs.2.1 rfl
    | false =>
      have e3 : ([⟨1, ⟨#[120]⟩, 2, 20⟩] : List Msg).findIdx? (ackP x y w) = none := by simp [List.findIdx?_cons, hw]
      simp only [e3] at hs
      exact go _ hs.1 hs.2.1 rfl
  have e11 : ((1 : Int) == 1) = true := rfl
  have e22 : ((2 : Int) == 2) = true := rfl
  by_cases hx : x = 1
  · by_cases hy : y = 2
    · subst hx hy
      simp only [e11, e22, if_true, kv_some, gdV_bool, fieldAddr_ptr, ld_one, rd_of gb4, Msg.cells, List.getElem?_cons_zero, List.getElem?_cons_succ, Nat.zero_add, bin_eql, bin_lss, pickV_bool]
      refine gdC_yes rfl (fin _ ?_)
      simp [ackP]
    · have hyb : (y == 2) = false := by simpa using hy
      subst hx
      simp only [e11, e22, if_true, kv_some, gdV_bool, fieldAddr_ptr, ld_one, rd_of gb4, Msg.cells, List.getElem?_cons_zero, List.getElem?_cons_succ, Nat.zero_add, bin_eql, bin_lss, pickV_bool, hyb, Bool.false_eq_true, if_false]
      refine gdC_yes rfl (fin _ ?_)
      simp [ackP]
      omega
  · have hxb : (x == 1) = false := by simpa using hx
    simp only [hxb, e11, e22, if_true, kv_some, gdV_bool, fieldAddr_ptr, ld_one, rd_of gb4, Msg.cells, List.getElem?_cons_zero, List.getElem?_cons_succ, Nat.zero_add, bin_eql, bin_lss, pickV_bool, Bool.false_eq_true, if_false]
    refine gdC_yes rfl (fin _ ?_)
    simp [ackP]
    omega

end Go.Abs

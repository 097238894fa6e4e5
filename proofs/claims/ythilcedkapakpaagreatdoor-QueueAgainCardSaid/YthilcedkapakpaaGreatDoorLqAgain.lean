/- QueueAgain, on abstract heaps. -/
import Derived.Test.YthilcedkapakpaaGreatDoorLaw1
namespace Go.Abs
open Go
variable {E E0 : FE} {h : AHeap}

theorem law_QueueAgain (_ : MonoI E.I) (_ : E.I (E.k 0) = some (cl (F.queue_Queue_Ack_1 E0))) (a b : Int) :
    F.estafettelaw8_QueueAgain E [i64 a, i64 b] h fun v _ => v = .bool true := by
  simp only [F.estafettelaw8_QueueAgain]
  refine cl_of ⟨rfl, ?_⟩
  obtain ⟨x, ex, x0, x1⟩ := and_mask (k := .bad) (c := true) (h := h) a 7 (by decide) (by decide)
  obtain ⟨y, ey, y0, y1⟩ := and_mask (k := .bad) (c := true) (h := h) b 127 (by decide) (by decide)
  simp only [not_bool, kv_some, ifV_bool, Bool.not_true, Bool.false_eq_true, if_false, ex, ey]
  rw [add_i64 1 x (by omega) (by omega), add_i64 1 y (by omega) (by omega)]
  simp only [kv_some]
  generalize hm : 1 + x = m
  generalize ht : 1 + y = t
  have m0 : 1 ≤ m ∧ m ≤ 8 := by omega
  have t0 : 1 ≤ t ∧ t ≤ 128 := by omega
  refine cl_then (queue_New m) ?_
  rintro p h1 ⟨f1, q1, m1⟩
  rw [show min (max m 1) 9 = m by omega] at q1
  refine cl_then (queue_Send q1 ⟨#[109]⟩ (by decide) (by decide)) ?_
  intro v h2 hs
  rw [if_pos (by decide)] at hs
  obtain ⟨rfl, f2, q2, m2⟩ := hs
  refine ⟨fun n l h' => ∃ (i now : Int) (fp' : List Nat), l = [i64 now, i64 i] ∧ 1 ≤ i ∧ i ≤ m + 1 ∧ n = (m + 1 - i).toNat ∧ 0 ≤ now ∧ now ≤ (i - 1) * 128 ∧ Qu h' fp' p m 2 [⟨1, ⟨#[109]⟩, i - 1, now⟩] [],
    m.toNat, ⟨1, 0, f2, rfl, by omega, by omega, by omega, by omega, by omega, by simpa using q2⟩, ?_⟩
  rintro n e g ⟨i, now, f3, hl, i1, i2, rfl, n1, n2, q3⟩
  simp only [List.cons.injEq, and_true] at hl
  rw [hl.1, hl.2]
  simp only [bin_leq, kv_some, ifV_bool, decide_eq_true_eq]
  by_cases hi : i ≤ m
  · rw [if_pos hi]
    have r1 : recvL m now t [⟨1, ⟨#[109]⟩, i - 1, now⟩] = ([⟨1, ⟨#[109]⟩, i, now + t⟩], [], some ⟨1, ⟨#[109]⟩, i, now + t⟩) := by
      simp only [recvL]
      rw [if_neg (by omega), if_neg (by omega)]
      simp
    have r2 : recvL m (now + t - 1) t [⟨1, ⟨#[109]⟩, i, now + t⟩] = ([⟨1, ⟨#[109]⟩, i, now + t⟩], [], none) := by
      simp only [recvL]
      rw [if_pos (by omega)]
    refine recv_box q3 now t (by simp) (by simp; omega) (by omega) ?_
    intro b1 h4 f4 b1n b1l b1f g1 q4 m4
    rw [r1] at g1 q4 ⊢
    rw [add_i64 now t (by omega) (by omega), kv_some, sub_i64 (now + t) 1 (by omega) (by omega), kv_some]
    refine recv_box q4 (now + t - 1) t (by simp) (by simp; omega) (by omega) ?_
    intro b2 h5 f5 b2n b2l b2f g2 q5 m5
    rw [r2] at g2 q5 ⊢
    have k1 : h5.get b1 = some (.cells (Msg.cells ⟨1, ⟨#[109]⟩, i, now + t⟩) 4 .rw) := by rw [m5.same b1 b1l b1f, g1]; rfl
    have e1 : ((1 : Int) != 1) = false := rfl
    have e2 : (i != i) = false := by simp
    have e3 : aStr .neq ⟨#[109]⟩ ⟨#[109]⟩ = some (.bool false) := by simp [aStr]
    simp only [Option.isSome_some, Option.isSome_none, not_bool, Bool.not_true, kv_some, gdV_bool, if_true, fieldAddr_ptr, ld_one, rd_of k1, Msg.cells, Nat.zero_add, List.getElem?_cons_zero, List.getElem?_cons_succ, bin_neq, e1, e2, pickV_bool,
      Bool.false_eq_true, if_false, bin_str, e3]
    refine gdC_yes rfl (cl_then (queue_Lost q5 (by simp)) ?_)
    rintro r h6 ⟨f6, s6, m6⟩
    have q6 : Qu h6 f5 p m 2 [⟨1, ⟨#[109]⟩, i, now + t⟩] [] := q5.mod m6.next fun x hx => m6.same x hx (by simp)
    have e0 : (((0 : Nat) : Int) != 0) = false := rfl
    simp only [s6.len, kv_some, bin_neq, List.length_nil, List.append_nil, e0, pickV_bool, Bool.false_eq_true, if_false, ifV_bool]
    rw [add_i64 now t (by omega) (by omega), add_i64 i 1 (by omega) (by omega)]
    simp only [kv_some]
    exact ⟨(m + 1 - (i + 1)).toNat, by omega, i + 1, now + t, f5, rfl, by omega, by omega, rfl, by omega, by omega, by rw [show i + 1 - 1 = i by omega]; exact q6⟩
  · rw [if_neg hi]
    obtain rfl : i = m + 1 := by omega
    have r1 : recvL m now t [⟨1, ⟨#[109]⟩, m + 1 - 1, now⟩] = ([], [⟨1, ⟨#[109]⟩, m, now⟩], none) := by
      simp only [recvL]
      rw [if_neg (by omega), if_pos (by omega)]
      simp
    refine recv_box q3 now t (by simp) (by simp; omega) (by omega) ?_
    intro b1 h4 f4 b1n b1l b1f g1 q4 m4
    rw [r1] at g1 q4 ⊢
    refine dead_box q4 (by simp) ?_
    intro b2 h5 b2n b2l g2 q5 m5
    refine dead_box q5 (by simp) ?_
    intro b3 h6 b3n b3l g3 q6 m6
    have k2 : h6.get b2 = some (.cells (Msg.cells ⟨1, ⟨#[109]⟩, m, now⟩) 4 .rw) := by
      rw [m6.same b2 b2l fun hx => by have := q4.lt b2 hx; omega, g2]
      rfl
    have e1 : ((1 : Int) == 1) = true := rfl
    have e2 : (m == m) = true := by simp
    simp only [Option.isSome_none, not_bool, Bool.not_true, Bool.not_false, kv_some, gdV_bool, if_true, fieldAddr_ptr, ld_one, rd_of k2, Msg.cells, Nat.zero_add, List.getElem?_cons_zero, List.getElem?_cons_succ, bin_eql, e1, e2, pickV_bool,
      Bool.false_eq_true, if_false, List.nil_append, List.isEmpty_cons, List.tail_cons, List.isEmpty_nil]
    refine gdC_yes rfl (cl_then (queue_Items q6 (by simp)) ?_)
    rintro r h7 ⟨f7, s7, m7⟩
    have q7 := q6.mod m7.next fun x hx => m7.same x hx (by simp)
    have e0 : (((0 : Nat) : Int) == 0) = true := rfl
    simp only [s7.len, kv_some, bin_eql, List.length_nil, e0, pickV_bool, if_true, gdV_bool]
    refine gdC_yes rfl (cl_then (queue_Lost q7 (by simp)) ?_)
    rintro r h8 ⟨f8, s8, m8⟩
    simp only [s8.len, kv_some, bin_eql, List.length_nil, e0, pickV_bool, if_true, List.tail_cons, List.tail_nil, List.nil_append]

end Go.Abs

/- QueueFair, on abstract heaps. -/
import Derived.Test.YthilcedkapakpaaGreatDoorLaw1
set_option linter.unusedSimpArgs false
set_option linter.unusedVariables false
namespace Go.Abs
open Go
variable {E E0 : FE} {h : AHeap}

/-- Messages that were sent, of numbers from a + 1 on. -/
def sentL (a : Int) : Nat → List Msg
  | 0 => []
  | n + 1 => ⟨a + 1, ⟨#[109]⟩, 0, 0⟩ :: sentL (a + 1) n

theorem sentL_len (a : Int) (n : Nat) : (sentL a n).length = n := by
  induction n generalizing a with
  | zero => rfl
  | succ n ih => simp [sentL, ih]

theorem sentL_snoc (a : Int) (n : Nat) : sentL a n ++ [⟨a + n + 1, ⟨#[109]⟩, 0, 0⟩] = sentL a (n + 1) := by
  induction n generalizing a with
  | zero => simp [sentL]
  | succ n ih =>
    rw [sentL, List.cons_append, sentL, ← ih (a + 1)]
    rw [show a + ((n + 1 : Nat) : Int) + 1 = a + 1 + (n : Int) + 1 by omega]

theorem sentL_count {a : Int} {n : Nat} {m : Msg} (hm : m ∈ sentL a n) : m.count = 0 := by
  induction n generalizing a with
  | zero => cases hm
  | succ n ih =>
    rcases List.mem_cons.1 hm with rfl | hm
    · rfl
    · exact ih hm

/-- Those that are out are passed by. -/
theorem recvL_busy {most now t : Int} {P : List Msg} (hP : ∀ m ∈ P, m.till > now) (R : List Msg) : recvL most now t (P ++ R) = (P ++ (recvL most now t R).1, (recvL most now t R).2) := by
  induction P with
  | nil => rfl
  | cons m P ih =>
    rw [List.cons_append, recvL, if_pos (hP m (List.mem_cons_self ..)), ih fun x hx => hP x (List.mem_cons_of_mem _ hx)]
    rfl

theorem law_QueueFair (_ : MonoI E.I) (_ : E.I (E.k 0) = some (cl (F.queue_Queue_Ack_1 E0))) (a b c : Int) :
    F.estafettelaw8_QueueFair E [i64 a, i64 b, i64 c] h fun v _ => v = .bool true := by
  simp only [F.estafettelaw8_QueueFair]
  refine cl_of ⟨rfl, ?_⟩
  obtain ⟨w, ew, w0, w1⟩ := and_mask (k := .bad) (c := true) (h := h) b 1048575 (by decide) (by decide)
  obtain ⟨y, ey, y0, y1⟩ := and_mask (k := .bad) (c := true) (h := h) c 255 (by decide) (by decide)
  have hr := Int.tmod_lt_of_pos a (show (0 : Int) < 70 by decide)
  have hr2 : -70 < a.tmod 70 := by
    have := Int.lt_tmod_of_pos a (show (0 : Int) < 70 by decide)
    omega
  have e70 : ((70 : Int) = 0) = False := by simp
  simp only [not_bool, kv_some, ifV_bool, Bool.not_true, Bool.false_eq_true, if_false, ew, ey, bin_rem, e70]
  rw [add_i64 _ 70 (by omega) (by omega), kv_some]
  simp only [bin_rem, e70, if_false, kv_some]
  rw [add_i64 1 y (by omega) (by omega), kv_some]
  generalize ht : 1 + y = t
  have t0 : 1 ≤ t ∧ t ≤ 256 := by omega
  have hN0 : 0 ≤ (a.tmod 70 + 70).tmod 70 := Int.tmod_nonneg _ (by omega)
  have hN1 : (a.tmod 70 + 70).tmod 70 < 70 := Int.tmod_lt_of_pos _ (by decide)
  generalize (a.tmod 70 + 70).tmod 70 = N at hN0 hN1
  refine cl_then (queue_New 3) ?_
  rintro p h1 ⟨f1, q1, m1⟩
  rw [show min (max 3 1) 9 = (3 : Int) from rfl] at q1
  refine ⟨fun n l h' => ∃ (i : Int) (fp' : List Nat), l = [i64 i] ∧ 0 ≤ i ∧ i ≤ N ∧ n = (N - i).toNat ∧ Qu h' fp' p 3 (min i 64 + 1) (sentL 0 (min i 64).toNat) [],
    N.toNat, ⟨0, f1, rfl, by omega, by omega, by omega, by exact q1⟩, ?_⟩
  rintro n e g ⟨i, f2, hl, i0, i1, rfl, q2⟩
  simp only [List.cons.injEq, and_true] at hl
  rw [hl]
  simp only [bin_lss, kv_some, ifV_bool, decide_eq_true_eq]
  by_cases hi : i < N
  · rw [if_pos hi]
    refine cl_then (queue_Send q2 ⟨#[109]⟩ (by omega) (by rw [sentL_len]; simp; omega)) ?_
    intro v h2 hs
    rw [sentL_len] at hs
    by_cases h64 : i < 64
    · rw [if_pos (by simp; omega)] at hs
      obtain ⟨rfl, f3, q3, m3⟩ := hs
      have e1 : (min i 64 + 1 != i + 1) = false := by simp; omega
      have e2 : decide (i < 64) = true := by simpa using h64
      have e3 : (!(true == true)) = false := rfl
      simp only [extract_tuple, List.getElem?_toArray, List.getElem?_cons_zero, List.getElem?_cons_succ, kv_some, bin_lss, e2, bin_bool_ne, e3, gdV_bool, if_true]
      rw [add_i64 i 1 (by omega) (by omega)]
      simp only [kv_some, bin_neq, e1, pickV_bool, if_true, Bool.false_eq_true, if_false, ifV_bool]
      refine ⟨(N - (i + 1)).toNat, by omega, i + 1, f3, rfl, by omega, by omega, rfl, ?_⟩
      rw [show min i 64 = i by omega] at q3
      rw [show min (i + 1) 64 = i + 1 by omega, show (i + 1).toNat = i.toNat + 1 by omega, ← sentL_snoc]
      rw [show (0 : Int) + (i.toNat : Int) + 1 = i + 1 by omega]
      exact q3
    · rw [if_neg (by simp; omega)] at hs
      obtain ⟨rfl, rfl⟩ := hs
      have e2 : decide (i < 64) = false := by simpa using h64
      have e3 : (!(false == false)) = false := rfl
      have e4 : (false = true) = False := by simp
      simp only [extract_tuple, List.getElem?_toArray, List.getElem?_cons_zero, List.getElem?_cons_succ, kv_some, bin_lss, e2, bin_bool_ne, e3, gdV_bool, if_true, e4, if_false, pickV_bool, ifV_bool]
      rw [add_i64 i 1 (by omega) (by omega)]
      simp only [kv_some]
      refine ⟨(N - (i + 1)).toNat, by omega, i + 1, f2, rfl, by omega, by omega, rfl, ?_⟩
      rw [show min (i + 1) 64 = min i 64 by omega]
      exact q2
  · rw [if_neg hi]
    obtain rfl : i = N := by omega
    simp only [min2, kv_some]
    generalize hm : min i 64 = m at q2
    have hm0 : 0 ≤ m ∧ m ≤ 64 := by omega
    refine ⟨fun n l h' => ∃ (k : Int) (fp' : List Nat) (P : List Msg), l = [i64 k] ∧ 0 ≤ k ∧ k ≤ m ∧ n = (m - k).toNat ∧ (∀ x ∈ P, x.till = w + t ∧ x.count = 1) ∧ P.length = k.toNat ∧
      (0 < k → P.head? = some ⟨1, ⟨#[109]⟩, 1, w + t⟩) ∧ Qu h' fp' p 3 (m + 1) (P ++ sentL k (m - k).toNat) [],
      m.toNat, ⟨0, f2, [], rfl, by omega, by omega, by omega, by simp, rfl, by omega, by simpa using q2⟩, ?_⟩
    rintro n e g2 ⟨k, f3, P, hl, k0, k1, rfl, hP, hPl, hPh, q3⟩
    simp only [List.cons.injEq, and_true] at hl
    rw [hl]
    have hPb : ∀ x ∈ P, x.till > w := fun x hx => by have := (hP x hx).1; omega
    have hlen : (P ++ sentL k (m - k).toNat).length + ([] : List Msg).length ≤ 1000000 := by simp [sentL_len, hPl]; omega
    have hcnt : ∀ x ∈ P ++ sentL k (m - k).toNat, 0 ≤ x.count ∧ x.count ≤ 1000000 := fun x hx => by
      rcases List.mem_append.1 hx with hx | hx
      · have := (hP x hx).2; omega
      · have := sentL_count hx; omega
    simp only [bin_lss, kv_some, ifV_bool, decide_eq_true_eq]
    by_cases hk : k < m
    · rw [if_pos hk]
      have r1 : recvL 3 w t (P ++ sentL k (m - k).toNat) = (P ++ ⟨k + 1, ⟨#[109]⟩, 1, w + t⟩ :: sentL (k + 1) (m - (k + 1)).toNat, [], some ⟨k + 1, ⟨#[109]⟩, 1, w + t⟩) := by
        rw [recvL_busy hPb, show (m - k).toNat = (m - (k + 1)).toNat + 1 by omega, sentL]
        simp only [recvL]
        rw [if_neg (by omega), if_neg (by omega)]
        rfl
      refine recv_box q3 w t hlen hcnt (by omega) ?_
      intro b1 h4 f4 b1n b1l b1f g1 q4 m4
      rw [r1] at g1 q4 ⊢
      have g1' : h4.get b1 = some (.cells (Msg.cells ⟨k + 1, ⟨#[109]⟩, 1, w + t⟩) 4 .rw) := g1
      have e1 : (k + 1 != k + 1) = false := by simp
      have e2 : ((1 : Int) != 1) = false := rfl
      have e3 : (w + t != w + t) = false := by simp
      simp only [Option.isSome_some, not_bool, Bool.not_true, kv_some, gdV_bool, if_true, fieldAddr_ptr, ld_one, rd_of g1', Msg.cells, Nat.zero_add, List.getElem?_cons_zero, List.getElem?_cons_succ]
      rw [add_i64 k 1 (by omega) (by omega), kv_some]
      simp only [bin_neq, e1, e2, kv_some, pickV_bool, Bool.false_eq_true, if_false, gdV_bool, if_true, fieldAddr_ptr, ld_one, rd_of g1', Msg.cells, Nat.zero_add, List.getElem?_cons_zero, List.getElem?_cons_succ]
      rw [add_i64 w t (by omega) (by omega)]
      simp only [bin_neq, e3, kv_some, pickV_bool, Bool.false_eq_true, if_false, ifV_bool]
      refine ⟨(m - (k + 1)).toNat, by omega, k + 1, f4, P ++ [⟨k + 1, ⟨#[109]⟩, 1, w + t⟩], rfl, by omega, by omega, rfl, ?_, ?_, ?_, ?_⟩
      · intro x hx
        rcases List.mem_append.1 hx with hx | hx
        · exact hP x hx
        · rw [List.mem_singleton.1 hx]; exact ⟨rfl, rfl⟩
      · simp [hPl]; omega
      · intro _
        cases P with
        | nil =>
          have : k = 0 := by simp at hPl; omega
          subst this
          rfl
        | cons x P => exact hPh (by simp at hPl; omega)
      · have e : P ++ ⟨k + 1, ⟨#[109]⟩, 1, w + t⟩ :: sentL (k + 1) (m - (k + 1)).toNat = P ++ [⟨k + 1, ⟨#[109]⟩, 1, w + t⟩] ++ sentL (k + 1) (m - (k + 1)).toNat := by simp
        rw [← e]
        exact q4
    · rw [if_neg hk]
      obtain rfl : k = m := by omega
      rw [show (k - k).toNat = 0 by omega] at q3 hlen hcnt
      simp only [sentL, List.append_nil] at q3 hlen hcnt
      rw [add_i64 w t (by omega) (by omega), kv_some, sub_i64 (w + t) 1 (by omega) (by omega), kv_some]
      have r1 : recvL 3 (w + t - 1) t P = (P, [], none) := by
        have := recvL_busy (most := 3) (now := w + t - 1) (t := t) (P := P) (fun x hx => by have := (hP x hx).1; omega) []
        simpa [recvL] using this
      refine recv_box q3 (w + t - 1) t hlen hcnt (by omega) ?_
      intro b1 h4 f4 b1n b1l b1f g1 q4 m4
      rw [r1] at g1 q4 ⊢
      rw [add_i64 w t (by omega) (by omega)]
      simp only [List.append_nil, kv_some]
      refine recv_box q4 (w + t) t (by simpa using hlen) hcnt (by omega) ?_
      intro b2 h5 f5 b2n b2l b2f g2 q5 m5
      by_cases hk0 : 0 < k
      · obtain ⟨P', rfl⟩ : ∃ P', P = ⟨1, ⟨#[109]⟩, 1, w + t⟩ :: P' := by
          have := hPh hk0
          cases P with
          | nil => cases this
          | cons x P => simp at this; exact ⟨P, by rw [this]⟩
        have r2 : (recvL 3 (w + t) t (⟨1, ⟨#[109]⟩, 1, w + t⟩ :: P')).2.2 = some ⟨1, ⟨#[109]⟩, 2, w + t + t⟩ := by
          simp only [recvL]
          rw [if_neg (by omega), if_neg (by omega)]
          rfl
        rw [r2] at g2 ⊢
        have g2' : h5.get b2 = some (.cells (Msg.cells ⟨1, ⟨#[109]⟩, 2, w + t + t⟩) 4 .rw) := g2
        have e1 : ((1 : Int) == 1) = true := rfl
        have e2 : ((2 : Int) == 2) = true := rfl
        have e3 : decide (k > 0) = true := by simpa using hk0
        have e4 : (true == true) = true := rfl
        have e5 : (true = false) = False := by simp
        simp only [Option.isSome_none, Option.isSome_some, not_bool, Bool.not_true, Bool.not_false, kv_some, gdV_bool, if_true, bin_gtr, e3, bin_bool_eq, e4, pickV_bool, fieldAddr_ptr, ld_one, rd_of g2', Msg.cells, Nat.zero_add, List.getElem?_cons_zero,
          List.getElem?_cons_succ, bin_eql, e1, e2, e5, if_false, Bool.false_eq_true]
      · have hP0 : P = [] := by
          cases P with
          | nil => rfl
          | cons x P => simp at hPl; omega
        subst hP0
        have e3 : decide (k > 0) = false := by simpa using hk0
        have e4 : (false == false) = true := rfl
        simp only [recvL, Option.isSome_none, not_bool, Bool.not_true, Bool.not_false, kv_some, gdV_bool, if_true, bin_gtr, e3, bin_bool_eq, e4, pickV_bool, Bool.true_eq_false, if_false, gdV_gone]

end Go.Abs

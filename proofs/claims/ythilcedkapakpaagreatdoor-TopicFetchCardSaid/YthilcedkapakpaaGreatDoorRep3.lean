/- Specs on abstract heaps, part 3: the library's functions on slices. -/
import Derived.Test.YthilcedkapakpaaGreatDoorRep2
import Derived.Test.YthilcedkapakpaaGreatDoorFns8
set_option linter.unusedSimpArgs false
set_option linter.unusedVariables false
namespace Go.Abs
open Go

/-- A message's cells. -/
structure Msg where
  id : Int
  val : ByteArray
  count : Int
  till : Int
deriving DecidableEq

def Msg.cells (m : Msg) : List V := [i64 m.id, str m.val, i64 m.count, i64 m.till]

def msgsC (l : List Msg) : List V := l.flatMap Msg.cells

@[simp] theorem msgsC_nil : msgsC [] = [] := rfl
@[simp] theorem msgsC_cons (m : Msg) (l : List Msg) : msgsC (m :: l) = m.cells ++ msgsC l := rfl
@[simp] theorem msgsC_append (a b : List Msg) : msgsC (a ++ b) = msgsC a ++ msgsC b := by simp [msgsC]
@[simp] theorem cells_length (m : Msg) : m.cells.length = 4 := rfl
@[simp] theorem msgsC_length (l : List Msg) : (msgsC l).length = l.length * 4 := by
  induction l with
  | nil => rfl
  | cons m l ih => simp [ih, Nat.add_mul, Nat.add_comm]

theorem msgsC_take (l : List Msg) (k : Nat) : (msgsC l).take (k * 4) = msgsC (l.take k) := by
  induction l generalizing k with
  | nil => simp
  | cons m l ih =>
    cases k with
    | zero => simp
    | succ k =>
      rw [List.take_succ_cons, msgsC_cons, msgsC_cons, Nat.add_mul, Nat.one_mul, Nat.add_comm, ← ih k, List.take_append, List.take_of_length_le (by simp)]
      simp

theorem msgsC_drop (l : List Msg) (k : Nat) : (msgsC l).drop (k * 4) = msgsC (l.drop k) := by
  induction l generalizing k with
  | nil => simp
  | cons m l ih =>
    cases k with
    | zero => simp
    | succ k =>
      rw [List.drop_succ_cons, msgsC_cons, Nat.add_mul, Nat.one_mul, Nat.add_comm, ← ih k, List.drop_append]
      simp [List.drop_eq_nil_of_le]

theorem msgsC_one (l : List Msg) : (msgsC l).all oneCell = true := by
  induction l with
  | nil => rfl
  | cons m l ih => simp only [msgsC_cons, List.all_append, ih, Bool.and_true]; rfl

/-- A slice of messages. -/
def Ms (h : AHeap) (fp : List Nat) (v : V) (l : List Msg) : Prop := Sl h fp v 4 l.length (msgsC l)

variable {E : FE} {h : AHeap} {fp : List Nat} {v : V} {l : List Msg}

theorem Ms.lt (s : Ms h fp v l) : ∀ x ∈ fp, x < h.next := Sl.lt s
theorem Ms.same {h' : AHeap} (s : Ms h fp v l) (hl : h.next ≤ h'.next) (hs : ∀ x ∈ fp, h'.get x = h.get x) : Ms h' fp v l := Sl.same s hl hs

abbrev zMsg : List V := [.int .i64 0, .string ⟨#[]⟩, .int .i64 0, .int .i64 0]

theorem clone_msgs (s : Ms h fp v l) (hsmall : l.length ≤ 1099511627776) :
    cl (F.slices_Clone_Sapi_Msg_api_Msg E) [v] h fun r h' => ∃ fp', Ms h' fp' r l ∧ Mod h [] h' fp' := by
  refine cl_of ?_
  obtain ⟨b, hb, hnil⟩ := Sl.isNil s true
  simp only [F.slices_Clone_Sapi_Msg_api_Msg, hb, kv_some, ifV_bool]
  cases b with
  | true =>
    obtain ⟨h0, rfl⟩ := hnil rfl
    have : l = [] := List.eq_nil_of_length_eq_zero h0
    subst this
    simp only [if_true]
    exact ⟨[], Sl.nil, Mod.refl (by simp)⟩
  | false =>
    simp only [Bool.false_eq_true, if_false, buildSliceD]
    simp only [Nat.zero_mul, Nat.zero_le, List.length_cons, List.length_nil, and_self, and_true, true_and, if_true, aFill, Option.map_some, kP_some, zeros, Nat.mul_zero, List.range_zero, List.map_nil, show (0:Nat) < 4 from by decide]
    have s1 : Sl (h.new (.cells [] 4 .rw)) [h.next] (.slice (some ⟨h.next, 0, none⟩) 0 0) 4 0 [] := ⟨by simp, .inr ⟨h.next, 0, [], rfl, rfl, by simp, by simp, by simp, by simp, by simp⟩⟩
    have s2 : Ms (h.new (.cells [] 4 .rw)) fp v l := s.same (by simp) fun x hx => by have := s.lt x hx; have : x ≠ h.next := by omega
                                                                                     simp [this]
    obtain ⟨v', h', fp', e1, e2, e3⟩ := Sl.append s1 (bytes := 40) (z := zMsg) rfl (by decide) (by decide) (Sl.src s2).1 (fun _ => (Sl.src s2).2) (by simp) (msgsC_one l) (by omega)
    simp only [zMsg] at e1
    rw [e1]
    simp only [kP_some]
    refine ⟨fp', by simpa [Ms] using e2, by have := e3.next; simp at this; omega, fun x hx _ => ?_, fun x hx => ?_, e3.lt⟩
    · have hne : x ≠ h.next := by omega
      rw [e3.same x (by simp; omega) (by simpa using hne)]
      simp [hne]
    · rcases e3.new x hx with h1 | h1
      · simp at h1; right; omega
      · simp at h1; right; omega

theorem delete_msg (s : Ms h fp v l) {i : Nat} (hi : i < l.length) (hsmall : l.length ≤ 1099511627776) :
    cl (F.slices_Delete_Sapi_Msg_api_Msg E) [v, i64 i, i64 ((i + 1 : Nat) : Int)] h fun r h' => Ms h' fp r (l.eraseIdx i) ∧ Mod h fp h' fp := by
  refine cl_of ?_
  have hlt := s.lt
  have hlen := Sl.len s
  obtain ⟨v2, e2, e3, e4⟩ := Sl.post (t := .i64) s (k := i + 1) (by omega)
  obtain ⟨h0, ⟨rfl, h1, rfl⟩ | ⟨b, c, all, rfl, rfl, hb, hc, h2, h3, h4⟩⟩ := s
  · omega
  have hall : l.length * 4 ≤ all.length := Nat.le_trans (Nat.mul_le_mul_right _ hc) h3
  have b1 : (0 : Int) ≤ ((l.length : Nat) : Int) ∧ ((l.length : Nat) : Int) ≤ ((c / 2 : Nat) : Int) := by omega
  have b2 : (0 : Int) ≤ ((i + 1 : Nat) : Int) ∧ ((i + 1 : Nat) : Int) ≤ ((l.length : Nat) : Int) := by omega
  have b3 : (0 : Int) ≤ (i : Int) ∧ (i : Int) ≤ ((i + 1 : Nat) : Int) := by omega
  have b4 : (0 : Int) ≤ (i : Int) ∧ (i : Int) ≤ ((c / 2 : Nat) : Int) := by omega
  have t1 : sliceD (.slice 4) (.slice (some ⟨b, 0, none⟩) l.length c) (some (i64 i)) (some (i64 ((i + 1 : Nat) : Int))) (some (i64 l.length)) h =
      some (.slice (some ⟨b, if l.length = i then 0 else 0 + i * 4, none⟩) (i + 1 - i) (2 * (l.length - i))) := by
    simp only [sliceD, h2, if_true, aBound, aBoundO, if_pos b1, Int.toNat_natCast, if_pos b2, if_pos b3]
  have t2 : sliceD (.slice 4) (.slice (some ⟨b, 0, none⟩) l.length c) none (some (i64 i)) none h = some (.slice (some ⟨b, 0, none⟩) i c) := by
    simp only [sliceD, h2, if_true, aBoundO, aBound, if_pos b4, Int.toNat_natCast]
  have hne : (((i : Nat) : Int) == ((i + 1 : Nat) : Int)) = false := by
    have : ((i : Nat) : Int) ≠ ((i + 1 : Nat) : Int) := by omega
    simpa using this
  simp only [F.slices_Delete_Sapi_Msg_api_Msg, hlen, kv_some, t1, bin_eql, hne, ifV_bool, Bool.false_eq_true, if_false, t2, e2]
  -- what is behind moves up
  have hnew : ((msgsC l).drop ((i + 1) * 4)).length = (l.length - (i + 1)) * 4 := by simp [Nat.sub_mul]
  have ap : ∃ all1, appendD (some (4, 40, [(.int .i64 0), (.string ⟨#[]⟩), (.int .i64 0), (.int .i64 0)])) (.slice (some ⟨b, 0, none⟩) i c) v2 h = some (.slice (some ⟨b, 0, none⟩) (l.length - 1) c, h.put b (.cells all1 4 .rw)) ∧
      all1.length = all.length ∧ all1.take ((l.length - 1) * 4) = msgsC (l.eraseIdx i) := by
    by_cases hz : l.length - (i + 1) = 0
    · have hi' : i = l.length - 1 := by omega
      refine ⟨all, ?_, rfl, ?_⟩
      · have : h.put b (.cells all 4 .rw) = h := by
          have : (fun x => if x = b then some (AObj.cells all 4 .rw) else h.get x) = h.get := by
            funext x
            split
            · rename_i hx; subst hx; exact h2.symm
            · rfl
          unfold AHeap.put
          rw [this]
        rw [this, ← hi']
        simp [appendD, e3, hz]
      · rw [hi', List.eraseIdx_length_sub_one, List.dropLast_eq_take, ← msgsC_take, ← h4, List.take_take, Nat.min_eq_left (by omega)]
    · have hs4 := e4 hz
      have hfit : i + (l.length - (i + 1)) ≤ c / 2 := by omega
      have hfl : i * 4 + ((msgsC l).drop ((i + 1) * 4)).length ≤ all.length := by rw [hnew]; omega
      have hw : h.wr b (0 + i * 4) ((msgsC l).drop ((i + 1) * 4)) = some (h.put b (.cells (setList all (i * 4) ((msgsC l).drop ((i + 1) * 4))) 4 .rw)) := by
        simp only [AHeap.wr, h2, Nat.zero_add]
        rw [if_pos ⟨by simp, hfl⟩]
      have h1c : ((msgsC l).drop ((i + 1) * 4)).all oneCell = true := by rw [msgsC_drop]; exact msgsC_one _
      refine ⟨setList all (i * 4) ((msgsC l).drop ((i + 1) * 4)), ?_, setList_length _ _ _, ?_⟩
      · simp only [appendD, e3, show (0:Nat) < 4 from by decide, show (40:Nat) ≤ 64 from by decide, List.length_cons, List.length_nil, and_self, if_true, if_neg hz, if_pos hfit, hs4, h2, h1c, hw, Option.map_some]
        rw [show i + (l.length - (i + 1)) = l.length - 1 by omega]
      · rw [setList_eq _ _ _ hfl, show (l.length - 1) * 4 = (all.take (i * 4) ++ (msgsC l).drop ((i + 1) * 4)).length by simp; omega, List.take_left]
        have : all.take (i * 4) = (msgsC l).take (i * 4) := by rw [← h4, List.take_take, Nat.min_eq_left (by omega)]
        rw [this, msgsC_take, msgsC_drop, ← msgsC_append, List.eraseIdx_eq_take_drop_succ]
  obtain ⟨all1, a1, a2, a3⟩ := ap
  simp only [a1, kP_some]
  have hL : lenD .slice (.slice (some ⟨b, 0, none⟩) (l.length - 1) c) (h.put b (.cells all1 4 .rw)) = some (i64 ((l.length - 1 : Nat) : Int)) := rfl
  simp only [hL, kv_some]
  -- the last is cleared
  have c1 : (0 : Int) ≤ ((l.length - 1 : Nat) : Int) ∧ ((l.length - 1 : Nat) : Int) ≤ ((l.length : Nat) : Int) := by omega
  have t3 : sliceD (.slice 4) (.slice (some ⟨b, 0, none⟩) (l.length - 1) c) (some (i64 ((l.length - 1 : Nat) : Int))) (some (i64 l.length)) none (h.put b (.cells all1 4 .rw)) =
      some (.slice (some ⟨b, (l.length - 1) * 4, none⟩) 1 (c - 2 * (l.length - 1))) := by
    simp only [sliceD, put_get, if_true, aBoundO, aBound, if_pos b1, Int.toNat_natCast, if_pos c1]
    by_cases hz : l.length - 1 = 0
    · rw [if_pos hz, hz]
      simp
      omega
    · rw [if_neg hz, if_pos (by omega)]
      simp
      omega
  simp only [t3, kv_some]
  have hcl : clearD (some (some [(.int .i64 0), (.string ⟨#[]⟩), (.int .i64 0), (.int .i64 0)])) (.slice (some ⟨b, (l.length - 1) * 4, none⟩) 1 (c - 2 * (l.length - 1))) (h.put b (.cells all1 4 .rw)) =
      (h.put b (.cells all1 4 .rw)).wr b ((l.length - 1) * 4) zMsg := by
    simp only [clearD]
    rfl
  have hfl2 : (l.length - 1) * 4 + zMsg.length ≤ all1.length := by simp; omega
  have hw2 : (h.put b (.cells all1 4 .rw)).wr b ((l.length - 1) * 4) zMsg = some ((h.put b (.cells all1 4 .rw)).put b (.cells (setList all1 ((l.length - 1) * 4) zMsg) 4 .rw)) := by
    simp only [AHeap.wr, put_get, if_true]
    rw [if_pos ⟨by simp, hfl2⟩]
  rw [hcl, hw2]
  simp only [kH_some]
  have hle : (l.eraseIdx i).length = l.length - 1 := by rw [List.length_eraseIdx, if_pos hi]
  refine ⟨⟨by simp, .inr ⟨b, c, setList all1 ((l.length - 1) * 4) zMsg, by rw [hle], rfl, by simpa using hb, by omega, by simp, by rw [setList_length, a2]; exact h3, ?_⟩⟩, by simp, fun x _ hx => ?_, fun x hx => .inl hx, hlt⟩
  · rw [hle, setList_eq _ _ _ hfl2, List.append_assoc, List.take_append_of_le_length (by simp; omega), List.take_take, Nat.min_self, a3]
  · simp at hx; simp [hx]

end Go.Abs

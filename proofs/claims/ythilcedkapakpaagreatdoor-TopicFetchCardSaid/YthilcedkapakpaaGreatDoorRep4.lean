/- Specs on abstract heaps, part 4: queues. -/
import Derived.Test.YthilcedkapakpaaGreatDoorRep3
set_option linter.unusedSimpArgs false
set_option linter.unusedVariables false
namespace Go.Abs
open Go

/-- A queue: its variable, its messages, the lost ones. -/
def Qu (h : AHeap) (fp : List Nat) (p : V) (most next : Int) (items lost : List Msg) : Prop :=
  ∃ b fi fl vi vl, p = ptr b 0 ∧ fp = b :: (fi ++ fl) ∧ b < h.next ∧ h.get b = some (.cells [i64 most, vi, vl, i64 next] 4 .rw) ∧ Ms h fi vi items ∧ Ms h fl vl lost ∧
    b ∉ fi ∧ b ∉ fl ∧ ∀ x ∈ fi, x ∉ fl

variable {E : FE} {h : AHeap} {fp : List Nat} {p : V} {most next : Int} {items lost : List Msg}

theorem Qu.lt (q : Qu h fp p most next items lost) : ∀ x ∈ fp, x < h.next := by
  obtain ⟨b, fi, fl, vi, vl, rfl, rfl, hb, h1, h2, h3, _⟩ := q
  intro x hx
  simp only [List.mem_cons, List.mem_append] at hx
  rcases hx with rfl | hx | hx
  · exact hb
  · exact h2.lt x hx
  · exact h3.lt x hx

theorem Qu.same {h' : AHeap} (q : Qu h fp p most next items lost) (hl : h.next ≤ h'.next) (hs : ∀ x ∈ fp, h'.get x = h.get x) : Qu h' fp p most next items lost := by
  obtain ⟨b, fi, fl, vi, vl, rfl, rfl, hb, h1, h2, h3, h4⟩ := q
  exact ⟨b, fi, fl, vi, vl, rfl, rfl, by omega, by rw [hs b (by simp), h1], h2.same hl fun x hx => hs x (by simp [hx]), h3.same hl fun x hx => hs x (by simp [hx]), h4⟩

theorem wrap_i64 {n : Int} (h1 : -9223372036854775808 ≤ n) (h2 : n ≤ 9223372036854775807) : IntKind.i64.wrap n = n := wrap_id h1 h2

theorem queue_New (m : Int) : cl (F.queue_New E) [i64 m] h fun r h' => ∃ fp, Qu h' fp r (min (max m 1) 9) 1 [] [] ∧ Mod h [] h' fp := by
  refine cl_of ?_
  simp only [F.queue_New, max2, min2, kv_some]
  have e1 : buildD (.struct [(.int .i64 0), (.slice none 0 0), (.slice none 0 0), (.int .i64 0)] [(0, 1), (1, 1), (2, 1), (3, 1)]) [(0, i64 (min (max m 1) 9)), (3, i64 1)] =
    some (.agg #[i64 (min (max m 1) 9), .slice none 0 0, .slice none 0 0, i64 1]) := rfl
  have e2 : ∀ a b c d : V, newD none (.agg #[a, b, c, d]) h = some (ptr h.next 0, h.new (.cells [a, b, c, d] 4 .rw)) := fun _ _ _ _ => rfl
  simp only [e1, kv_some, e2, kP_some]
  refine ⟨[h.next], ⟨h.next, [], [], .slice none 0 0, .slice none 0 0, rfl, rfl, by simp, by simp, Sl.nil, Sl.nil, by simp, by simp, by simp⟩, by simp, fun x hx _ => ?_, by simp, by simp⟩
  have : x ≠ h.next := by omega
  simp [this]

theorem queue_Next (q : Qu h fp p most next items lost) : cl (F.queue_Queue_Next E) [p] h fun r h' => h' = h ∧ r = i64 next := by
  obtain ⟨b, fi, fl, vi, vl, rfl, rfl, hb, h1, h2, h3, h4⟩ := q
  refine cl_of ?_
  simp [F.queue_Queue_Next, rd_of h1]

/-- A pointer's cells are written. -/
theorem st_of {b o n : Nat} {cs vs : List V} {e : Nat} {k : BK} {x : V} (hb : h.get b = some (.cells cs e k)) (hk : k ≠ .ro) (hx : cellsOf x = some vs) (hn : vs.length = n) (h1 : vs.all oneCell = true) (ho : o + n ≤ cs.length) :
    stD (some n) (ptr b o) x h = some (h.put b (.cells (setList cs o vs) e k)) := by
  subst hn
  simp only [stD, hx, h1, and_self, if_true, AHeap.wr, hb]
  rw [if_pos ⟨hk, ho⟩]

theorem st_one {b o : Nat} {cs : List V} {e : Nat} {k : BK} {x : V} (hb : h.get b = some (.cells cs e k)) (hk : k ≠ .ro) (hx : cellsOf x = some [x]) (h1 : oneCell x = true) (ho : o < cs.length) :
    stD (some 1) (ptr b o) x h = some (h.put b (.cells (cs.set o x) e k)) := st_of hb hk hx rfl (by simp [h1]) ho

theorem Sl.cell {fp : List Nat} {v : V} {es n : Nat} {cs : List V} (s : Sl h fp v es n cs) : cellsOf v = some [v] ∧ oneCell v = true := by
  obtain ⟨_, ⟨rfl, _⟩ | ⟨b, c, all, rfl, _⟩⟩ := s <;> exact ⟨rfl, rfl⟩

theorem queue_Send (q : Qu h fp p most next items lost) (s : ByteArray) (hn : 0 ≤ next ∧ next < 9223372036854775807) (hsz : items.length + lost.length ≤ 1000000) :
    cl (F.queue_Queue_Send E) [p, str s] h fun r h' =>
      if items.length + lost.length < 64 then r = .tuple #[i64 next, .bool true] ∧ ∃ fp', Qu h' fp' p most (next + 1) (items ++ [⟨next, s, 0, 0⟩]) lost ∧ Mod h fp h' fp'
      else r = .tuple #[i64 0, .bool false] ∧ h' = h := by
  have hlt := q.lt
  obtain ⟨b, fi, fl, vi, vl, rfl, rfl, hb, h1, h2, h3, h4, h5, h6⟩ := q
  refine cl_of ?_
  have l1 := Sl.len h2
  have l2 := Sl.len h3
  have w1 : IntKind.i64.wrap ((items.length : Int) + (lost.length : Int)) = ((items.length + lost.length : Nat) : Int) := by rw [wrap_i64 (by omega) (by omega)]; omega
  simp only [F.queue_Queue_Send, ptr_eq_nil, kv_some, gdV_bool, if_true, aNil_ptr, fieldAddr_ptr, ld_one, rd_of h1, Nat.zero_add, List.getElem?_cons_succ, List.getElem?_cons_zero, l1, l2, bin_add, w1, bin_geq, pickV_bool, Bool.false_eq_true, if_false, ifV_bool]
  by_cases hc : items.length + lost.length < 64
  · have hd : ¬ (((items.length + lost.length : Nat) : Int) ≥ 64) := by omega
    simp only [hd, decide_false, if_pos hc, Bool.false_eq_true, if_false]
    have e1 : buildD (.struct [(.int .i64 0), (.string ⟨#[]⟩), (.int .i64 0), (.int .i64 0)] [(0, 1), (1, 1), (2, 1), (3, 1)]) [(0, i64 next), (1, str s)] = some (.agg #[i64 next, str s, i64 0, i64 0]) := rfl
    have e2 : buildSliceD (some (4, [(.int .i64 0), (.string ⟨#[]⟩), (.int .i64 0), (.int .i64 0)])) 1 [(0, .agg #[i64 next, str s, i64 0, i64 0])] h =
      some (.slice (some ⟨h.next, 0, none⟩) 1 2, h.new (.cells [i64 next, str s, i64 0, i64 0] 4 .rw)) := rfl
    simp only [e1, kv_some, e2, kP_some]
    have hbn : b ≠ h.next := by omega
    have g1 : (h.new (.cells [i64 next, str s, i64 0, i64 0] 4 .rw)).get b = some (.cells [i64 most, vi, vl, i64 next] 4 .rw) := by simp [hbn, h1]
    have keep : ∀ x, x < h.next → (h.new (.cells [i64 next, str s, i64 0, i64 0] 4 .rw)).get x = h.get x := fun x hx => by
      have : x ≠ h.next := by omega
      simp [this]
    have s1 : Ms (h.new (.cells [i64 next, str s, i64 0, i64 0] 4 .rw)) fi vi items := h2.same (by simp) fun x hx => keep x (h2.lt x hx)
    have s2 : Ms (h.new (.cells [i64 next, str s, i64 0, i64 0] 4 .rw)) fl vl lost := h3.same (by simp) fun x hx => keep x (h3.lt x hx)
    obtain ⟨v', h', fi', a1, a2, a3⟩ := Sl.append s1 (x := .slice (some ⟨h.next, 0, none⟩) 1 2) (k := 1) (bytes := 40) (z := zMsg) (new := (⟨next, s, 0, 0⟩ : Msg).cells) rfl (by decide) (by decide) rfl
      (fun _ => by simp [aSrc, sliceCells, AHeap.rdN, Msg.cells]) rfl rfl (by omega)
    simp only [rd_of g1, List.getElem?_cons_succ, List.getElem?_cons_zero, true_and]
    simp only [zMsg] at a1
    rw [a1]
    simp only [kP_some]
    have g2 : h'.get b = some (.cells [i64 most, vi, vl, i64 next] 4 .rw) := by rw [a3.same b (by simp; omega) h4]; exact g1
    obtain ⟨c1, c2⟩ := Sl.cell a2
    rw [st_one g2 (by simp) c1 c2 (by simp)]
    simp only [kH_some, List.set_cons_succ, List.set_cons_zero]
    have g3 : (h'.put b (.cells [i64 most, v', vl, i64 next] 4 .rw)).get b = some (.cells [i64 most, v', vl, i64 next] 4 .rw) := by simp
    have w2 : IntKind.i64.wrap (next + 1) = next + 1 := wrap_i64 (by omega) (by omega)
    have w3 : IntKind.i64.wrap (next + 1 - 1) = next := by rw [wrap_i64 (by omega) (by omega)]; omega
    simp only [rd_of g3, List.getElem?_cons_succ, List.getElem?_cons_zero, kv_some, bin_add, w2]
    rw [st_one g3 (by simp) rfl rfl (by simp)]
    simp only [kH_some, List.set_cons_succ, List.set_cons_zero]
    have g4 : ((h'.put b (.cells [i64 most, v', vl, i64 next] 4 .rw)).put b (.cells [i64 most, v', vl, i64 (next + 1)] 4 .rw)).get b = some (.cells [i64 most, v', vl, i64 (next + 1)] 4 .rw) := by simp
    simp only [rd_of g4, List.getElem?_cons_succ, List.getElem?_cons_zero, kv_some, bin_sub, w3]
    have hn1 : h.next + 1 ≤ h'.next := by have := a3.next; simpa using this
    have bfi : b ∉ fi' := fun hx => by
      rcases a3.new b hx with hx | hx
      · exact h4 hx
      · simp at hx; omega
    have get' : ∀ x, x ≠ b → ((h'.put b (.cells [i64 most, v', vl, i64 next] 4 .rw)).put b (.cells [i64 most, v', vl, i64 (next + 1)] 4 .rw)).get x = h'.get x := fun x hx => by simp [hx]
    have s3 : Ms h' fl vl lost := s2.same (by simp; omega) fun x hx => a3.same x (by have := h3.lt x hx; simp; omega) fun hf => h6 x hf hx
    refine ⟨trivial, b :: (fi' ++ fl), ⟨b, fi', fl, v', vl, rfl, rfl, by simp; omega, by simp, ?_, s3.same (by simp) fun x hx => get' x fun e => h5 (e ▸ hx), bfi, h5, fun x hx hf => ?_⟩, ?_⟩
    · have : Ms h' fi' v' (items ++ [⟨next, s, 0, 0⟩]) := by simpa [Ms] using a2
      exact this.same (by simp) fun x hx => get' x fun e => bfi (e ▸ hx)
    · rcases a3.new x hx with hx | hx
      · exact h6 x hx hf
      · have := h3.lt x hf; simp at hx; omega
    · refine ⟨by simp; omega, fun x hx hnx => ?_, fun x hx => ?_, fun x hx => ?_⟩
      · simp only [List.mem_cons, List.mem_append, not_or] at hnx
        rw [get' x hnx.1, a3.same x (by simp; omega) hnx.2.1, keep x hx]
      · simp only [List.mem_cons, List.mem_append] at hx ⊢
        rcases hx with rfl | hx | hx
        · simp
        · rcases a3.new x hx with hx | hx
          · simp [hx]
          · simp at hx; right; omega
        · simp [hx]
      · simp only [List.mem_cons, List.mem_append] at hx
        simp only [put_next]
        rcases hx with rfl | hx | hx
        · omega
        · exact a3.lt x hx
        · have := h3.lt x hx; omega
  · have hd : ((items.length + lost.length : Nat) : Int) ≥ 64 := by omega
    simp only [hd, decide_true, if_neg hc, if_true]
    exact ⟨trivial, trivial⟩

theorem queue_Items (q : Qu h fp p most next items lost) (hsz : items.length ≤ 1000000) :
    cl (F.queue_Queue_Items E) [p] h fun r h' => ∃ fp', Ms h' fp' r items ∧ Mod h [] h' fp' := by
  obtain ⟨b, fi, fl, vi, vl, rfl, rfl, hb, h1, h2, h3, h4⟩ := q
  refine cl_of ?_
  simp only [F.queue_Queue_Items, ptr_eq_nil, kv_some, ifV_bool, Bool.false_eq_true, if_false, aNil_ptr, fieldAddr_ptr, ld_one, rd_of h1, Nat.zero_add, List.getElem?_cons_succ, List.getElem?_cons_zero]
  exact clone_msgs h2 (by omega)

theorem queue_Lost (q : Qu h fp p most next items lost) (hsz : lost.length ≤ 1000000) :
    cl (F.queue_Queue_Lost E) [p] h fun r h' => ∃ fp', Ms h' fp' r lost ∧ Mod h [] h' fp' := by
  obtain ⟨b, fi, fl, vi, vl, rfl, rfl, hb, h1, h2, h3, h4⟩ := q
  refine cl_of ?_
  simp only [F.queue_Queue_Lost, ptr_eq_nil, kv_some, ifV_bool, Bool.false_eq_true, if_false, aNil_ptr, fieldAddr_ptr, ld_one, rd_of h1, Nat.zero_add, List.getElem?_cons_succ, List.getElem?_cons_zero]
  exact clone_msgs h3 (by omega)

theorem Mod.keep {fp : List Nat} {h' : AHeap} {fp' : List Nat} (m : Mod h [] h' fp') {x : Nat} (hx : x < h.next) : h'.get x = h.get x := m.same x hx (by simp)

theorem aFill_one {place : Nat → Option (Nat × Nat)} {cells : List V} {i : Nat} {v : V} {rest : List (Nat × V)} {off : Nat} (hp : place i = some (off, 1)) (hc : cellsOf v = some [v]) (ho : off < cells.length) :
    aFill place cells ((i, v) :: rest) = aFill place (cells.set off v) rest := by
  have ho' : off + 1 ≤ cells.length := ho
  simp only [aFill, hp, hc, List.length_cons, List.length_nil, Nat.zero_add, true_and, if_pos ho', setList]

theorem queue_Clone (q : Qu h fp p most next items lost) (hsz : items.length + lost.length ≤ 1000000) :
    cl (F.queue_Queue_Clone E) [p] h fun r h' => ∃ fp', Qu h' fp' r most next items lost ∧ Mod h [] h' fp' := by
  obtain ⟨b, fi, fl, vi, vl, rfl, rfl, hb, h1, h2, h3, h4, h5, h6⟩ := q
  refine cl_of ?_
  simp only [F.queue_Queue_Clone, ptr_eq_nil, kv_some, ifV_bool, Bool.false_eq_true, if_false, aNil_ptr, fieldAddr_ptr, ld_one, rd_of h1, Nat.zero_add, List.getElem?_cons_succ, List.getElem?_cons_zero]
  refine cl_then (clone_msgs h2 (by omega)) ?_
  rintro v1 ha ⟨f1, m1, d1⟩
  have g1 : ha.get b = some (.cells [i64 most, vi, vl, i64 next] 4 .rw) := by rw [d1.same b hb (by simp)]; exact h1
  have h3a : Ms ha fl vl lost := h3.same d1.next fun x hx => d1.same x (h3.lt x hx) (by simp)
  simp only [rd_of g1, List.getElem?_cons_succ, List.getElem?_cons_zero, true_and]
  refine cl_then (clone_msgs h3a (by omega)) ?_
  rintro v2 hc ⟨f2, m2, d2⟩
  have g2 : hc.get b = some (.cells [i64 most, vi, vl, i64 next] 4 .rw) := by rw [d2.same b (Nat.lt_of_lt_of_le hb d1.next) (by simp)]; exact g1
  have e1 : buildD (.struct [(.int .i64 0), (.slice none 0 0), (.slice none 0 0), (.int .i64 0)] [(0, 1), (1, 1), (2, 1), (3, 1)]) [(0, i64 most), (1, v1), (2, v2), (3, i64 next)] =
      some (.agg #[i64 most, v1, v2, i64 next]) := by
    obtain ⟨c1, _⟩ := Sl.cell m1
    obtain ⟨c2, _⟩ := Sl.cell m2
    simp only [buildD]
    rw [aFill_one rfl rfl (by simp), aFill_one rfl c1 (by simp), aFill_one rfl c2 (by simp), aFill_one rfl rfl (by simp)]
    rfl
  have e2 : ∀ a b c d : V, newD none (.agg #[a, b, c, d]) hc = some (ptr hc.next 0, hc.new (.cells [a, b, c, d] 4 .rw)) := fun _ _ _ _ => rfl
  simp only [rd_of g2, List.getElem?_cons_succ, List.getElem?_cons_zero, true_and, e1, kv_some, e2, kP_some]
  have k1 := d1.next
  have k2 := d2.next
  have keep : ∀ x, x < hc.next → (hc.new (.cells [i64 most, v1, v2, i64 next] 4 .rw)).get x = hc.get x := fun x hx => by
    have : x ≠ hc.next := by omega
    simp [this]
  have n1 : ∀ x ∈ f1, h.next ≤ x ∧ x < ha.next := fun x hx => ⟨by rcases d1.new x hx with h | h; simp at h; exact h, d1.lt x hx⟩
  have n2 : ∀ x ∈ f2, ha.next ≤ x ∧ x < hc.next := fun x hx => ⟨by rcases d2.new x hx with h | h; simp at h; exact h, d2.lt x hx⟩
  refine ⟨hc.next :: (f1 ++ f2), ⟨hc.next, f1, f2, v1, v2, rfl, rfl, by simp, by simp, ?_, ?_, ?_, ?_, ?_⟩, by simp; omega, fun x hx _ => ?_, fun x hx => ?_, fun x hx => ?_⟩
  · exact m1.same (by simp; omega) fun x hx => by rw [keep x (by have := n1 x hx; omega)]; exact d2.same x (n1 x hx).2 (by simp)
  · exact m2.same (by simp) fun x hx => keep x (n2 x hx).2
  · intro hx; have := n1 _ hx; omega
  · intro hx; have := n2 _ hx; omega
  · intro x hx hx2; have := n1 _ hx; have := n2 _ hx2; omega
  · rw [keep x (by omega), d2.same x (by omega) (by simp), d1.same x hx (by simp)]
  · right
    simp only [List.mem_cons, List.mem_append] at hx
    rcases hx with rfl | hx | hx
    · omega
    · exact (n1 x hx).1
    · have := (n2 x hx).1; omega
  · simp only [List.mem_cons, List.mem_append] at hx
    simp only [new_next]
    rcases hx with rfl | hx | hx
    · omega
    · have := (n1 x hx).2; omega
    · have := (n2 x hx).2; omega

end Go.Abs

/- Specs on abstract heaps, part 29: spaces that are compared with what is the same. -/
import Derived.Test.YthilcedkapakpaaGreatDoorRepF
import Derived.Test.YthilcedkapakpaaGreatDoorRepE
import Derived.Test.YthilcedkapakpaaGreatDoorLqTable
set_option linter.unusedSimpArgs false
set_option linter.unusedVariables false
namespace Go.Abs
open Go Go.Proofs
variable {E E1 E2 : FE} {h h' : AHeap} {fp : List Nat} {p q : V} {l : List ByteArray} {g : List En}

theorem Mod.nil {a : List Nat} (m : Mod h [] h' a) : Mod h [] h' [] := ⟨m.next, m.same, by simp, by simp⟩

/-- slices.Equal of the same messages. -/
theorem eq_msgs {v w : V} {l : List Msg} {fa fb : List Nat} (a : Ms h fa v l) (b : Ms h fb w l) (hsz : l.length ≤ 1000000) :
    cl (Go.Abs.F.slices_Equal_Sapi_Msg_api_Msg E) [v, w] h fun r h' => r = .bool true ∧ h' = h := by
  refine cl_of ?_
  have l1 := Sl.len a
  have l2 := Sl.len b
  simp only [Go.Abs.F.slices_Equal_Sapi_Msg_api_Msg, l1, l2, kv_some, bin_neq, bne_self_eq_false, ifV_bool, Bool.false_eq_true, if_false]
  refine ⟨fun k vs h' => ∃ i : Nat, i ≤ l.length ∧ k = l.length - i ∧ vs = [i64 i] ∧ h' = h, l.length, ⟨0, by omega, by omega, rfl, rfl⟩, ?_⟩
  rintro k e h1 ⟨i, hi, rfl, he, e1⟩
  rw [e1]
  simp only [List.cons.injEq, and_true] at he
  simp only [he, kv_some, bin_lss, ifV_bool]
  by_cases hx : i < l.length
  · have hx' : (i : Int) < (l.length : Nat) := by omega
    obtain ⟨b1, x1, _, x2, _⟩ := Ms.at a (i := i) (m := l[i]) (by simp [hx])
    obtain ⟨b2, y1, _, y2, _⟩ := Ms.at b (i := i) (m := l[i]) (by simp [hx])
    simp only [hx', decide_true, if_true, x1, x2, y1, y2, kv_some]
    rw [msg_same, kv_some]
    simp only [ifV_bool, Bool.false_eq_true, if_false]
    rw [add_i64 _ 1 (by omega) (by omega), kv_some]
    exact ⟨l.length - (i + 1), by omega, i + 1, by omega, rfl, by simp, trivial⟩
  · have hx' : ¬ (i : Int) < (l.length : Nat) := by omega
    simp only [hx', decide_false, Bool.false_eq_true, if_false]
    exact ⟨trivial, trivial⟩

/-- A box that holds a pointer. -/
theorem box1 (v : V) (hv : cellsOf v = some [v]) : newD none v h = some (ptr h.next 0, h.new (.cells [v] 1 .rw)) := by
  simp only [newD, hv]
  rfl

theorem Spa.isPtr {cs : List V} {A : Pl} (s : Spa h fp p cs A) : cellsOf p = some [p] ∧ oneCell p = true := by
  obtain ⟨b, f, rfl, _⟩ := s
  exact ⟨rfl, rfl⟩

/-- Two tables, the same. -/
theorem alike_same {fa fb : List Nat} (hM : MonoI E.I) (hE : E.I (E.k 2) = some (cl (Go.Abs.F.space_alike_1 E1))) (a : Tab h fa p g) (b : Tab h fb q g) (hv : ∀ e ∈ g, ∃ s, e.v = str s) (hs : ∀ e ∈ g, e.k.size ≤ maxLen) (hl : g.length ≤ 1000) :
    cl (Go.Abs.F.space_alike E) [p, q] h fun r h' => r = .bool true ∧ Mod h [] h' [] := by
  refine cl_of ?_
  have hg : ∀ k, ∃ x, (getE k g).getD (str ⟨#[]⟩) = str x := by
    intro k
    cases hk : getE k g with
    | none => exact ⟨_, rfl⟩
    | some v =>
      obtain ⟨e, he, rfl⟩ := getE_mem hk
      obtain ⟨s, hs⟩ := hv e he
      exact ⟨s, by rw [hs]; rfl⟩
  obtain ⟨pa, _⟩ := a.isPtr
  obtain ⟨pb, _⟩ := b.isPtr
  simp only [Go.Abs.F.space_alike, box1 p pa, box1 q pb, kP_some]
  have m0 : Mod h [] ((h.new (.cells [p] 1 .rw)).new (.cells [q] 1 .rw)) [] := (Mod.box0 _).trans (Mod.box0 _)
  have g1 : ((h.new (.cells [p] 1 .rw)).new (.cells [q] 1 .rw)).get h.next = some (.cells [p] 1 .rw) := by simp
  have g2 : ((h.new (.cells [p] 1 .rw)).new (.cells [q] 1 .rw)).get (h.next + 1) = some (.cells [q] 1 .rw) := by simp
  have n1 : h.next < ((h.new (.cells [p] 1 .rw)).new (.cells [q] 1 .rw)).next ∧ h.next + 1 < ((h.new (.cells [p] 1 .rw)).new (.cells [q] 1 .rw)).next := by simp; omega
  simp only [new_next]
  generalize (h.new (.cells [p] 1 .rw)).new (.cells [q] 1 .rw) = h0 at m0 g1 g2 n1 ⊢
  have rp : ∀ {h'}, Mod h0 [] h' [] → h'.rd h.next 0 = some p := fun m => by rw [rd_keep m n1.1]; exact rd_of g1 0
  have rq : ∀ {h'}, Mod h0 [] h' [] → h'.rd (h.next + 1) 0 = some q := fun m => by rw [rd_keep m n1.2]; exact rd_of g2 0
  have keepA : ∀ {h'}, Mod h0 [] h' [] → Tab h' fa p g := fun m => a.same (m0.trans m).next fun x hx => (m0.trans m).same x (a.lt x hx) (by simp)
  have keepB : ∀ {h'}, Mod h0 [] h' [] → Tab h' fb q g := fun m => b.same (m0.trans m).next fun x hx => (m0.trans m).same x (b.lt x hx) (by simp)
  have mr : Mod h0 [] h0 [] := Mod.refl (by simp)
  simp only [ld_one, rp mr, rq mr, kv_some]
  refine cl_then (table_KeysT (keepA mr) hs hl) ?_
  rintro r1 h1 ⟨f1, t1, m1⟩
  have m1 := m1.nil
  simp only [ld_one, rq m1, true_and]
  refine cl_then (table_KeysT (keepB m1) hs hl) ?_
  rintro r2 h2 ⟨f2, t2, m2⟩
  have m2' := m1.trans m2.nil
  have t1' : Ts h2 f1 r1 (keysT g) := t1.same m2.next fun x hx => m2.same x (t1.lt x hx) (by simp)
  refine cl_then (eq_texts t1'.rdt t2.rdt (by rw [keysT_len]; omega)) ?_
  rintro r h3 ⟨e3, rfl⟩
  rw [e3]
  simp only [decide_true, not_bool, Bool.not_true, kv_some, ifV_bool, Bool.false_eq_true, if_false, ld_one, rp m2']
  refine cl_then (table_KeysT (keepA m2') hs hl) ?_
  rintro r3 h4 ⟨f3, t3, m3⟩
  have m3' := m2'.trans m3.nil
  refine cl_then (any_texts hM t3.rdt (by rw [keysT_len]; omega) (fun _ => false) fun s _ => ?_) ?_
  · simp only [aCall, hE]
    refine cl_of ?_
    show Go.Abs.F.space_alike_1 E1 [str s, ptr h.next 0, ptr (h.next + 1) 0] h4 _
    simp only [Go.Abs.F.space_alike_1, ld_one, rp m3', kv_some]
    refine cl_then (table_Get (keepA m3') hv s) ?_
    rintro r h5 ⟨e5, rfl⟩
    rw [e5]
    simp only [extract_tuple, List.getElem?_toArray, List.getElem?_cons_zero, List.getElem?_cons_succ, kv_some, ld_one, rq m3']
    refine cl_then (table_Get (keepB m3') hv s) ?_
    rintro r h6 ⟨e6, rfl⟩
    rw [e6]
    obtain ⟨x, hx⟩ := hg s
    simp only [extract_tuple, List.getElem?_toArray, List.getElem?_cons_zero, List.getElem?_cons_succ, kv_some, hx, str_neq, decide_true, Bool.not_true]
    exact ⟨trivial, trivial⟩
  · rintro r h5 ⟨e5, rfl⟩
    rw [e5]
    have : (keysT g).any (fun _ => false) = false := by simp
    rw [this]
    simp only [not_bool, Bool.not_false, kv_some]
    exact ⟨trivial, m0.trans m3'⟩

theorem nodup_le {α : Type} [DecidableEq α] : ∀ {a b : List α}, a.Nodup → (∀ x ∈ a, x ∈ b) → a.length ≤ b.length
  | [], b, _, _ => by simp
  | x :: a, b, hn, hs => by
    obtain ⟨h1, h2⟩ := List.nodup_cons.1 hn
    have hx : x ∈ b := hs x (by simp)
    have := nodup_le (a := a) (b := b.erase x) h2 fun y hy => by
      have : y ≠ x := fun e => h1 (e ▸ hy)
      exact (List.mem_erase_of_ne this).2 (hs y (by simp [hy]))
    rw [List.length_erase_of_mem hx] at this
    have : 0 < b.length := List.length_pos_of_mem hx
    simp only [List.length_cons]
    omega

/-- The group's name that is no group's. -/
def xs (i : Nat) : ByteArray := ⟨(List.replicate i (120 : UInt8)).toArray⟩

theorem xs_size (i : Nat) : (xs i).size = i := by simp [xs, ByteArray.size]
theorem xs_succ (i : Nat) : xs i ++ ⟨#[120]⟩ = xs (i + 1) := by
  have : (⟨#[120]⟩ : ByteArray) = ⟨[120].toArray⟩ := rfl
  unfold xs
  rw [this, ba_app, List.replicate_succ']
theorem xs_inj {i j : Nat} (h : xs i = xs j) : i = j := by rw [← xs_size i, h, xs_size]

/-- All texts of a topic. -/
theorem all_texts (t : To h fp p l g) (hs : ∀ e ∈ g, e.k.size ≤ maxLen) (hl : g.length ≤ 1000) (hsz : l.length ≤ 1000000) :
    cl (Go.Abs.F.space_texts E) [p] h fun r h' => ∃ fp', Ts h' fp' r l ∧ Mod h [] h' [] := by
  refine cl_of ?_
  simp only [Go.Abs.F.space_texts]
  refine ⟨fun n vs h' => ∃ i : Nat, vs = [str (xs i)] ∧ n = g.length - i ∧ i ≤ g.length ∧ (∀ j, j < i → xs j ∈ keysE g) ∧ Mod h [] h' [], g.length, ⟨0, rfl, by omega, by omega, by simp, Mod.refl (by simp)⟩, ?_⟩
  rintro n e h1 ⟨i, he, rfl, hi, hall, m1⟩
  simp only [List.cons.injEq, and_true] at he
  rw [he]
  have t1 : To h1 fp p l g := t.same m1.next fun x hx => m1.same x (t.lt x hx) (by simp)
  refine cl_then (topic_Groups t1 hs hl) ?_
  rintro r h2 ⟨f2, s2, m2⟩
  have t2 : To h2 fp p l g := t1.same m2.next fun x hx => m2.same x (t1.lt x hx) (by simp)
  refine cl_then (has_text s2.rdt (by rw [keysT_len]; omega) (xs i)) ?_
  rintro r h3 ⟨e3, rfl⟩
  rw [e3]
  simp only [ifV_bool]
  by_cases hin : xs i ∈ keysE g
  · have : ((keysT g).any fun y => decide (xs i = y)) = true := List.any_eq_true.2 ⟨xs i, (keysT_perm g).mem_iff.2 hin, by simp⟩
    rw [this]
    simp only [if_true]
    have hlen : i + 1 ≤ g.length := by
      have h1 := nodup_le (a := (List.range (i + 1)).map xs) (b := keysE g) (List.pairwise_map.2 (List.nodup_range.imp fun {a b} hab e => hab (xs_inj e))) fun x hx => by
        obtain ⟨j, hj, rfl⟩ := List.mem_map.1 hx
        have hj' : j < i + 1 := List.mem_range.1 hj
        by_cases hji : j = i
        · rw [hji]; exact hin
        · exact hall j (by omega)
      simpa [keysE] using h1
    rw [str_add _ _ _ _ (by rw [xs_size]; have : (⟨#[120]⟩ : ByteArray).size = 1 := rfl
                            omega), kv_some, xs_succ]
    refine ⟨g.length - (i + 1), by omega, i + 1, rfl, rfl, hlen, fun j hj => ?_, m1.trans m2.nil⟩
    by_cases hji : j = i
    · rw [hji]; exact hin
    · exact hall j (by omega)
  · have : ((keysT g).any fun y => decide (xs i = y)) = false := by
      rw [List.any_eq_false]
      intro y hy
      have hy' := (keysT_perm g).mem_iff.1 hy
      simp only [decide_eq_true_eq]
      exact fun e => hin (e ▸ hy')
    rw [this]
    simp only [Bool.false_eq_true, if_false]
    refine cl_then (topic_Len t2) ?_
    rintro r h4 ⟨rfl, rfl⟩
    have hat : atN (xs i) g = 0 := by
      unfold atN
      rw [get_none.1 hin]
    refine cl_then (topic_Fetch t2 (xs i) (by rw [hat]; omega) l.length hsz) ?_
    rintro r h5 ⟨f5, s5, m5⟩
    refine ⟨f5, ?_, (m1.trans m2.nil).trans m5.nil⟩
    rw [hat] at s5
    have : (l.drop (0 : Int).toNat).take (min (max (l.length : Int) 0) ((l.length : Int) - 0)).toNat = l := by
      simp
    rw [this] at s5
    exact s5

end Go.Abs

set_option linter.unusedSimpArgs false
set_option linter.unusedVariables false
namespace Go.Abs
open Go Go.Proofs
variable {E E1 : FE} {h h' : AHeap} {p q pt qt : V} {l : List ByteArray} {g : List En} {fa fb : List Nat}

/-- What a comparison looks at: the two boxes, the two spaces' cells. -/
structure EqSt (h0 : AHeap) (x y : Nat) (ba bb : Nat) (ca cb : List V) : Prop where
  rp : ∀ {h'}, Mod h0 [] h' [] → h'.rd x 0 = some (ptr ba 0)
  rq : ∀ {h'}, Mod h0 [] h' [] → h'.rd y 0 = some (ptr bb 0)
  ra : ∀ {h'}, Mod h0 [] h' [] → ∀ j, h'.rd ba j = ca[j]?
  rb : ∀ {h'}, Mod h0 [] h' [] → ∀ j, h'.rd bb j = cb[j]?

theorem eqst {A B : Pl} {ca cb : List V} (a : Spa h fa p ca A) (b : Spa h fb q cb B) :
    ∃ h0 x ba bb f f', p = ptr ba 0 ∧ q = ptr bb 0 ∧ newD none p h = some (ptr x 0, h.new (.cells [p] 1 .rw)) ∧ newD none q (h.new (.cells [p] 1 .rw)) = some (ptr (x + 1) 0, h0) ∧ Mod h [] h0 [] ∧ EqSt h0 x (x + 1) ba bb ca cb ∧
      (∀ {h'}, Mod h0 [] h' [] → A.P h' f) ∧ (∀ {h'}, Mod h0 [] h' [] → B.P h' f') := by
  obtain ⟨ba, f, rfl, rfl, hba, hga, hA, hna⟩ := a
  obtain ⟨bb, f', rfl, rfl, hbb, hgb, hB, hnb⟩ := b
  have m0 : Mod h [] ((h.new (.cells [ptr ba 0] 1 .rw)).new (.cells [ptr bb 0] 1 .rw)) [] := (Mod.box0 _).trans (Mod.box0 _)
  have g1 : ((h.new (.cells [ptr ba 0] 1 .rw)).new (.cells [ptr bb 0] 1 .rw)).get h.next = some (.cells [ptr ba 0] 1 .rw) := by simp
  have g2 : ((h.new (.cells [ptr ba 0] 1 .rw)).new (.cells [ptr bb 0] 1 .rw)).get (h.next + 1) = some (.cells [ptr bb 0] 1 .rw) := by simp
  have n1 : h.next < ((h.new (.cells [ptr ba 0] 1 .rw)).new (.cells [ptr bb 0] 1 .rw)).next := by simp; omega
  have n2 : h.next + 1 < ((h.new (.cells [ptr ba 0] 1 .rw)).new (.cells [ptr bb 0] 1 .rw)).next := by simp
  refine ⟨_, h.next, ba, bb, f, f', rfl, rfl, rfl, rfl, m0, ⟨fun m => ?_, fun m => ?_, fun m j => ?_, fun m j => ?_⟩, fun m => ?_, fun m => ?_⟩
  · rw [rd_keep m n1]; exact rd_of g1 0
  · rw [rd_keep m n2]; exact rd_of g2 0
  · have mm := m0.trans m
    rw [rd_keep mm hba]; exact rd_of hga j
  · have mm := m0.trans m
    rw [rd_keep mm hbb]; exact rd_of hgb j
  · have mm := m0.trans m
    exact A.same _ _ _ hA mm.next fun x hx => mm.same x (A.lt _ _ hA x hx) (by simp)
  · have mm := m0.trans m
    exact B.same _ _ _ hB mm.next fun x hx => mm.same x (B.lt _ _ hB x hx) (by simp)

theorem Eq_tab (hM : MonoI E.I) (hE : E.I (E.k 2) = some (cl (Go.Abs.F.space_alike_1 E1))) (a : Spa h fa p (cTab pt) (plTab pt g)) (b : Spa h fb q (cTab qt) (plTab qt g)) (hv : ∀ e ∈ g, ∃ s, e.v = str s) (hs : ∀ e ∈ g, e.k.size ≤ maxLen) (hl : g.length ≤ 1000) :
    cl (Go.Abs.F.space_Space_Eq E) [p, q] h fun r h' => r = .bool true ∧ Mod h [] h' [] := by
  refine cl_of ?_
  obtain ⟨h0, x, ba, bb, f, f', rfl, rfl, e1, e2, m0, st, kA, kB⟩ := eqst a b
  have mr : Mod h0 [] h0 [] := Mod.refl (by simp)
  simp only [Go.Abs.F.space_Space_Eq, e1, e2, kP_some]
  simp only [ld_one, st.rp mr, st.rq mr, kv_some, ptr_eq_nil, gdV_bool, if_true, pickV_bool, Bool.false_eq_true, if_false, aNil_ptr, fieldAddr_ptr, Nat.zero_add, st.ra mr, st.rb mr, List.getElem?_cons_zero, List.getElem?_cons_succ, bin_neq, bne_self_eq_false, ifV_bool, bin_eql, beq_self_eq_true]
  refine cl_then (alike_same hM hE (kA mr) (kB mr) hv hs hl) ?_
  rintro r h1 ⟨rfl, m1⟩
  exact ⟨rfl, m0.trans m1⟩

theorem Eq_qu {most next : Int} {items lost : List Msg} (a : Spa h fa p (cQu pt) (plQu pt most next items lost)) (b : Spa h fb q (cQu qt) (plQu qt most next items lost)) (hsz : items.length + lost.length ≤ 1000000) :
    cl (Go.Abs.F.space_Space_Eq E) [p, q] h fun r h' => r = .bool true ∧ Mod h [] h' [] := by
  refine cl_of ?_
  obtain ⟨h0, x, ba, bb, f, f', rfl, rfl, e1, e2, m0, st, kA, kB⟩ := eqst a b
  have mr : Mod h0 [] h0 [] := Mod.refl (by simp)
  simp only [Go.Abs.F.space_Space_Eq, e1, e2, kP_some]
  simp only [ld_one, st.rp mr, st.rq mr, kv_some, ptr_eq_nil, gdV_bool, if_true, pickV_bool, Bool.false_eq_true, if_false, aNil_ptr, fieldAddr_ptr, Nat.zero_add, st.ra mr, st.rb mr, List.getElem?_cons_zero, List.getElem?_cons_succ, bin_neq, bne_self_eq_false, ifV_bool, bin_eql, beq_self_eq_true, show ((2 : Int) == 1) = false from rfl]
  refine cl_then (queue_Next (kA mr)) ?_
  rintro r h1 ⟨e3, rfl⟩
  rw [e3]
  simp only [ld_one, st.rq mr, st.rb mr, List.getElem?_cons_zero, List.getElem?_cons_succ, true_and]
  refine cl_then (queue_Next (kB mr)) ?_
  rintro r h1 ⟨e4, rfl⟩
  rw [e4]
  simp only [bin_eql, beq_self_eq_true, kv_some, gdV_bool, if_true, ld_one, st.rp mr, st.rq mr, st.ra mr, st.rb mr, List.getElem?_cons_zero, List.getElem?_cons_succ, aNil_ptr, fieldAddr_ptr, Nat.zero_add]
  refine gdC_yes rfl (cl_then (queue_Items (kA mr) (by omega)) ?_)
  rintro ra h2 ⟨f2, s2, m2⟩
  have m2' := m2.nil
  simp only [gdV_bool, if_true, ld_one, st.rq m2', st.rb m2', List.getElem?_cons_zero, List.getElem?_cons_succ, true_and]
  refine gdC_yes rfl (cl_then (queue_Items (kB m2') (by omega)) ?_)
  rintro rb h3 ⟨f3, s3, m3⟩
  have m3' := m2'.trans m3.nil
  have s2' : Ms h3 f2 ra items := s2.same m3.next fun y hy => m3.same y (s2.lt y hy) (by simp)
  refine gdC_yes rfl (cl_then (eq_msgs s2' s3 (by omega)) ?_)
  rintro r h4 ⟨rfl, e5⟩
  rw [e5]
  simp only [pickV_bool, if_true, kv_some, gdV_bool, ld_one, st.rp m3', st.rq m3', st.ra m3', st.rb m3', List.getElem?_cons_zero, List.getElem?_cons_succ, aNil_ptr, fieldAddr_ptr, Nat.zero_add]
  refine gdC_yes rfl (cl_then (queue_Lost (kA m3') (by omega)) ?_)
  rintro rc h5 ⟨f5, s5, m5⟩
  have m5' := m3'.trans m5.nil
  simp only [gdV_bool, if_true, ld_one, st.rq m5', st.rb m5', List.getElem?_cons_zero, List.getElem?_cons_succ, true_and]
  refine gdC_yes rfl (cl_then (queue_Lost (kB m5') (by omega)) ?_)
  rintro rd h6 ⟨f6, s6, m6⟩
  have m6' := m5'.trans m6.nil
  have s5' : Ms h6 f5 rc lost := s5.same m6.next fun y hy => m6.same y (s5.lt y hy) (by simp)
  refine gdC_yes rfl (cl_then (eq_msgs s5' s6 (by omega)) ?_)
  rintro r h7 ⟨rfl, e7⟩
  rw [e7]
  simp only [pickV_bool, if_true, kv_some]
  exact ⟨trivial, m0.trans m6'⟩

theorem atE_int {k : ByteArray} (hv : ∀ e ∈ g, ∃ n : Int, e.v = i64 n) : ∃ n : Int, atE k g = i64 n := by
  unfold atE
  cases hk : getE k g with
  | none => exact ⟨0, rfl⟩
  | some v =>
    obtain ⟨e, he, rfl⟩ := getE_mem hk
    obtain ⟨n, hn⟩ := hv e he
    exact ⟨n, by rw [hn]; rfl⟩

theorem To.vals {fp : List Nat} (t : To h fp p l g) : ∀ e ∈ g, ∃ n : Int, e.v = i64 n := by
  obtain ⟨b, m, fl, vl, clk, _, _, _, _, _, _, _, _, _, _, _, h7⟩ := t
  exact h7

theorem Eq_to (hM : MonoI E.I) (hE : E.I (E.k 1) = some (cl (Go.Abs.F.space_Space_Eq_1 E1))) (a : Spa h fa p (cTo pt) (plTo pt l g)) (b : Spa h fb q (cTo qt) (plTo qt l g)) (hs : ∀ e ∈ g, e.k.size ≤ maxLen) (hl : g.length ≤ 1000) (hsz : l.length ≤ 1000000) :
    cl (Go.Abs.F.space_Space_Eq E) [p, q] h fun r h' => r = .bool true ∧ Mod h [] h' [] := by
  refine cl_of ?_
  obtain ⟨h0, x, ba, bb, f, f', rfl, rfl, e1, e2, m0, st, kA, kB⟩ := eqst a b
  have mr : Mod h0 [] h0 [] := Mod.refl (by simp)
  simp only [Go.Abs.F.space_Space_Eq, e1, e2, kP_some]
  simp only [ld_one, st.rp mr, st.rq mr, kv_some, ptr_eq_nil, gdV_bool, if_true, pickV_bool, Bool.false_eq_true, if_false, aNil_ptr, fieldAddr_ptr, Nat.zero_add, st.ra mr, st.rb mr, List.getElem?_cons_zero, List.getElem?_cons_succ, bin_neq, bne_self_eq_false, ifV_bool, bin_eql, beq_self_eq_true, show ((3 : Int) == 1) = false from rfl, show ((3 : Int) == 2) = false from rfl]
  refine cl_then (topic_Groups (kA mr) hs hl) ?_
  rintro ra h1 ⟨f1, s1, m1⟩
  have m1' := m1.nil
  simp only [ld_one, st.rq m1', st.rb m1', List.getElem?_cons_zero, List.getElem?_cons_succ, true_and]
  refine cl_then (topic_Groups (kB m1') hs hl) ?_
  rintro rb h2 ⟨f2, s2, m2⟩
  have m2' := m1'.trans m2.nil
  have s1' : Ts h2 f1 ra (keysT g) := s1.same m2.next fun y hy => m2.same y (s1.lt y hy) (by simp)
  refine cl_then (eq_texts s1'.rdt s2.rdt (by rw [keysT_len]; omega)) ?_
  rintro r h3 ⟨e3, rfl⟩
  rw [e3]
  simp only [decide_true, gdV_bool, if_true, kv_some, ld_one, st.rp m2', st.ra m2', List.getElem?_cons_zero, List.getElem?_cons_succ, aNil_ptr, fieldAddr_ptr, Nat.zero_add]
  refine gdC_yes rfl (cl_then (topic_Groups (kA m2') hs hl) ?_)
  rintro rc h4 ⟨f4, s4, m4⟩
  have m4' := m2'.trans m4.nil
  refine gdC_yes rfl (cl_then (any_texts hM s4.rdt (by rw [keysT_len]; omega) (fun _ => false) fun s _ => ?_) ?_)
  · simp only [aCall, hE]
    refine cl_of ?_
    show Go.Abs.F.space_Space_Eq_1 E1 [str s, ptr x 0, ptr (x + 1) 0] h4 _
    simp only [Go.Abs.F.space_Space_Eq_1, ld_one, st.rp m4', st.rq m4', st.ra m4', st.rb m4', List.getElem?_cons_zero, List.getElem?_cons_succ, aNil_ptr, fieldAddr_ptr, Nat.zero_add, kv_some]
    have hvA := To.vals (kA m4')
    obtain ⟨n, hn⟩ := atE_int (k := s) hvA
    refine cl_then (topic_At (kA m4') s) ?_
    rintro r h5 ⟨e5, rfl⟩
    rw [e5]
    simp only [ld_one, st.rq m4', st.rb m4', List.getElem?_cons_zero, List.getElem?_cons_succ, true_and]
    refine cl_then (topic_At (kB m4') s) ?_
    rintro r h6 ⟨e6, rfl⟩
    rw [e6, hn]
    simp only [bin_neq, bne_self_eq_false, kv_some]
    exact ⟨trivial, trivial⟩
  rintro r h5 ⟨e5, rfl⟩
  rw [e5]
  have hno : (keysT g).any (fun _ => false) = false := by simp
  rw [hno]
  simp only [not_bool, Bool.not_false, kv_some, gdV_bool, if_true, pickV_bool, ld_one, st.rp m4', st.rq m4', st.ra m4', st.rb m4', List.getElem?_cons_zero, List.getElem?_cons_succ, aNil_ptr, fieldAddr_ptr, Nat.zero_add]
  refine gdC_yes rfl (cl_then (all_texts (kA m4') hs hl hsz) ?_)
  rintro rd h6 ⟨f6, s6, m6⟩
  have m6' := m4'.trans m6
  simp only [gdV_bool, if_true, ld_one, st.rq m6', st.rb m6', List.getElem?_cons_zero, List.getElem?_cons_succ, true_and]
  refine gdC_yes rfl (cl_then (all_texts (kB m6') hs hl hsz) ?_)
  rintro re h7 ⟨f7, s7, m7⟩
  have m7' := m6'.trans m7
  have s6' : Ts h7 f6 rd l := s6.same m7.next fun y hy => m7.same y (s6.lt y hy) (by simp)
  refine gdC_yes rfl (cl_then (eq_texts s6'.rdt s7.rdt (by omega)) ?_)
  rintro r h8 ⟨e8, rfl⟩
  rw [e8]
  simp only [decide_true, pickV_bool, if_true, kv_some]
  exact ⟨trivial, m0.trans m7'⟩

theorem nil_clone_tab : cl (Go.Abs.F.table_Table_Clone E) [nil] h fun r h' => r = nil ∧ h' = h := by
  refine cl_of ?_
  simp only [Go.Abs.F.table_Table_Clone, nil_eq_nil, kv_some, ifV_bool, if_true]
  exact ⟨trivial, trivial⟩
theorem nil_clone_qu : cl (Go.Abs.F.queue_Queue_Clone E) [nil] h fun r h' => r = nil ∧ h' = h := by
  refine cl_of ?_
  simp only [Go.Abs.F.queue_Queue_Clone, nil_eq_nil, kv_some, ifV_bool, if_true]
  exact ⟨trivial, trivial⟩
theorem nil_clone_to : cl (Go.Abs.F.topic_Topic_Clone E) [nil] h fun r h' => r = nil ∧ h' = h := by
  refine cl_of ?_
  simp only [Go.Abs.F.topic_Topic_Clone, nil_eq_nil, kv_some, ifV_bool, if_true]
  exact ⟨trivial, trivial⟩

theorem spa_new {A : Pl} {cs : List V} {h2 : AHeap} {f : List Nat} (m : Mod h [] h2 f) (hA : A.P h2 f) :
    Spa (h2.new (.cells cs 4 .rw)) (h2.next :: f) (ptr h2.next 0) cs A ∧ Mod h [] (h2.new (.cells cs 4 .rw)) (h2.next :: f) := by
  have hl := A.lt _ _ hA
  have hm := m.next
  refine ⟨⟨h2.next, f, rfl, rfl, by simp, by simp, A.same _ _ _ hA (by simp) fun x hx => ?_, fun hx => ?_⟩, by simp; omega, fun x hx _ => ?_, fun x hx => ?_, fun x hx => ?_⟩
  · have := hl x hx
    have : x ≠ h2.next := by omega
    simp [this]
  · have := hl _ hx; omega
  · have : x ≠ h2.next := by omega
    simp only [new_get, this, if_false]
    exact m.same x hx (by simp)
  · rcases List.mem_cons.1 hx with rfl | hx
    · right; exact hm
    · exact m.new x hx
  · rcases List.mem_cons.1 hx with rfl | hx
    · simp
    · have := hl x hx; simp; omega

theorem Clone_tab (a : Spa h fa p (cTab pt) (plTab pt g)) : cl (Go.Abs.F.space_Space_Clone E) [p] h fun r h' => ∃ qt fp', Spa h' fp' r (cTab qt) (plTab qt g) ∧ Mod h [] h' fp' := by
  refine cl_of ?_
  obtain ⟨b, f, rfl, rfl, hb, hg, hA, hn⟩ := a
  simp only [Go.Abs.F.space_Space_Clone, ptr_eq_nil, kv_some, ifV_bool, Bool.false_eq_true, if_false, aNil_ptr, fieldAddr_ptr, ld_one, Nat.zero_add, rd_of hg, List.getElem?_cons_zero, List.getElem?_cons_succ]
  refine cl_then (table_Clone hA) ?_
  rintro qt h1 ⟨f1, t1, m1⟩
  have g1 : h1.get b = some (.cells (cTab pt) 4 .rw) := by rw [m1.same b hb (by simp), hg]
  simp only [rd_of g1, List.getElem?_cons_zero, List.getElem?_cons_succ, true_and]
  refine cl_then nil_clone_qu ?_
  rintro r h2 ⟨rfl, rfl⟩
  simp only [rd_of g1, List.getElem?_cons_zero, List.getElem?_cons_succ, true_and]
  refine cl_then nil_clone_to ?_
  rintro r h3 ⟨rfl, rfl⟩
  obtain ⟨⟨bq, mq, cq, rfl, _⟩, _⟩ := (⟨t1, trivial⟩ : Tab h3 f1 qt g ∧ True)
  have e1 : buildD (.struct [(.int .i64 0), (.pointer none), (.pointer none), (.pointer none)] [(0, 1), (1, 1), (2, 1), (3, 1)]) [(0, i64 1), (1, ptr bq 0), (2, nil), (3, nil)] = some (.agg #[i64 1, ptr bq 0, nil, nil]) := rfl
  have e2 : newD none (.agg #[i64 1, ptr bq 0, nil, nil]) h3 = some (ptr h3.next 0, h3.new (.cells [i64 1, ptr bq 0, nil, nil] 4 .rw)) := rfl
  simp only [rd_of g1, List.getElem?_cons_zero, true_and, e1, e2, kv_some, kP_some]
  obtain ⟨s, m⟩ := spa_new (A := plTab (ptr bq 0) g) (cs := cTab (ptr bq 0)) m1 t1
  exact ⟨_, _, s, m⟩

theorem Clone_qu {most next : Int} {items lost : List Msg} (a : Spa h fa p (cQu pt) (plQu pt most next items lost)) (hsz : items.length + lost.length ≤ 1000000) :
    cl (Go.Abs.F.space_Space_Clone E) [p] h fun r h' => ∃ qt fp', Spa h' fp' r (cQu qt) (plQu qt most next items lost) ∧ Mod h [] h' fp' := by
  refine cl_of ?_
  obtain ⟨b, f, rfl, rfl, hb, hg, hA, hn⟩ := a
  simp only [Go.Abs.F.space_Space_Clone, ptr_eq_nil, kv_some, ifV_bool, Bool.false_eq_true, if_false, aNil_ptr, fieldAddr_ptr, ld_one, Nat.zero_add, rd_of hg, List.getElem?_cons_zero, List.getElem?_cons_succ]
  refine cl_then nil_clone_tab ?_
  rintro r h2 ⟨rfl, rfl⟩
  simp only [rd_of hg, List.getElem?_cons_zero, List.getElem?_cons_succ, true_and]
  refine cl_then (queue_Clone hA hsz) ?_
  rintro qt h1 ⟨f1, t1, m1⟩
  have g1 : h1.get b = some (.cells (cQu pt) 4 .rw) := by rw [m1.same b hb (by simp), hg]
  simp only [rd_of g1, List.getElem?_cons_zero, List.getElem?_cons_succ, true_and]
  refine cl_then nil_clone_to ?_
  rintro r h3 ⟨rfl, rfl⟩
  obtain ⟨⟨bq, fi, fl, vi, vl, rfl, _⟩, _⟩ := (⟨t1, trivial⟩ : Qu h3 f1 qt most next items lost ∧ True)
  have e1 : buildD (.struct [(.int .i64 0), (.pointer none), (.pointer none), (.pointer none)] [(0, 1), (1, 1), (2, 1), (3, 1)]) [(0, i64 2), (1, nil), (2, ptr bq 0), (3, nil)] = some (.agg #[i64 2, nil, ptr bq 0, nil]) := rfl
  have e2 : newD none (.agg #[i64 2, nil, ptr bq 0, nil]) h3 = some (ptr h3.next 0, h3.new (.cells [i64 2, nil, ptr bq 0, nil] 4 .rw)) := rfl
  simp only [rd_of g1, List.getElem?_cons_zero, true_and, e1, e2, kv_some, kP_some]
  obtain ⟨s, m⟩ := spa_new (A := plQu (ptr bq 0) most next items lost) (cs := cQu (ptr bq 0)) m1 t1
  exact ⟨_, _, s, m⟩

theorem Clone_to (a : Spa h fa p (cTo pt) (plTo pt l g)) (hsz : l.length ≤ 1000000) : cl (Go.Abs.F.space_Space_Clone E) [p] h fun r h' => ∃ qt fp', Spa h' fp' r (cTo qt) (plTo qt l g) ∧ Mod h [] h' fp' := by
  refine cl_of ?_
  obtain ⟨b, f, rfl, rfl, hb, hg, hA, hn⟩ := a
  simp only [Go.Abs.F.space_Space_Clone, ptr_eq_nil, kv_some, ifV_bool, Bool.false_eq_true, if_false, aNil_ptr, fieldAddr_ptr, ld_one, Nat.zero_add, rd_of hg, List.getElem?_cons_zero, List.getElem?_cons_succ]
  refine cl_then nil_clone_tab ?_
  rintro r h2 ⟨rfl, rfl⟩
  simp only [rd_of hg, List.getElem?_cons_zero, List.getElem?_cons_succ, true_and]
  refine cl_then nil_clone_qu ?_
  rintro r h2 ⟨rfl, rfl⟩
  simp only [rd_of hg, List.getElem?_cons_zero, List.getElem?_cons_succ, true_and]
  refine cl_then (topic_Clone hA hsz) ?_
  rintro qt h1 ⟨f1, t1, m1⟩
  have g1 : h1.get b = some (.cells (cTo pt) 4 .rw) := by rw [m1.same b hb (by simp), hg]
  obtain ⟨⟨bq, mq, fl, vl, clk, rfl, _⟩, _⟩ := (⟨t1, trivial⟩ : To h1 f1 qt l g ∧ True)
  have e1 : buildD (.struct [(.int .i64 0), (.pointer none), (.pointer none), (.pointer none)] [(0, 1), (1, 1), (2, 1), (3, 1)]) [(0, i64 3), (1, nil), (2, nil), (3, ptr bq 0)] = some (.agg #[i64 3, nil, nil, ptr bq 0]) := rfl
  have e2 : newD none (.agg #[i64 3, nil, nil, ptr bq 0]) h1 = some (ptr h1.next 0, h1.new (.cells [i64 3, nil, nil, ptr bq 0] 4 .rw)) := rfl
  simp only [rd_of g1, List.getElem?_cons_zero, true_and, e1, e2, kv_some, kP_some]
  obtain ⟨s, m⟩ := spa_new (A := plTo (ptr bq 0) l g) (cs := cTo (ptr bq 0)) m1 t1
  exact ⟨_, _, s, m⟩

end Go.Abs

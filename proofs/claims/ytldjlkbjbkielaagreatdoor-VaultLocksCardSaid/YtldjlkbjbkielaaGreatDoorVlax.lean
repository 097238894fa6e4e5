/- Specs on abstract heaps, part 29: spaces that are compared with what is the same. -/
import Derived.Test.YtldjlkbjbkielaaGreatDoorVlaw
set_option linter.unusedSimpArgs false
set_option linter.unusedVariables false
namespace Go.Abs
open Go Go.Proofs
variable {E E1 E2 : FE} {h h' : AHeap} {fp : List Nat} {p q : V} {l : List ByteArray} {g : List En}
def xs (i : Nat) : ByteArray := ⟨(List.replicate i (120 : UInt8)).toArray⟩
end Go.Abs
namespace Go.Abs
open Go Go.Proofs
variable {E E1 : FE} {h h' : AHeap} {p q pt qt : V} {l : List ByteArray} {g : List En} {fa fb : List Nat}
theorem nil_clone_tab : cl (Go.Abs.F.table_Table_Clone E) [nil] h fun r h' => r = nil ∧ h' = h := by
 refine cl_of ?_
 simp only [Go.Abs.F.table_Table_Clone, nil_eq_nil, kv_some, ifV_bool, if_true]
 exact ⟨trivial, trivial⟩
theorem nil_clone_qu : cl (Go.Abs.F.queue_Queue_Clone E) [nil] h fun r h' => r = nil ∧ h' = h := by
 refine cl_of ?_
 simp only [Go.Abs.F.queue_Queue_Clone, nil_eq_nil, kv_some, ifV_bool, if_true]
 exact ⟨trivial, trivial⟩
theorem nil_clone_to : cl (Go.Abs.F.topic_Topic_Clone E) [nil] h fun r h' => r = nil ∧ h' = h := by
 refine cl_of ?_
 simp only [Go.Abs.F.topic_Topic_Clone, nil_eq_nil, kv_some, ifV_bool, if_true]
 exact ⟨trivial, trivial⟩
theorem spa_new {A : Pl} {cs : List V} {h2 : AHeap} {f : List Nat} (m : Mod h [] h2 f) (hA : A.P h2 f) :
 Spa (h2.new (.cells cs 4 .rw)) (h2.next :: f) (ptr h2.next 0) cs A ∧ Mod h [] (h2.new (.cells cs 4 .rw)) (h2.next :: f) := by
 have hl := A.lt _ _ hA
 have hm := m.next
 refine ⟨⟨h2.next, f, rfl, rfl, by simp, by simp, A.same _ _ _ hA (by simp) fun x hx => ?_, fun hx => ?_⟩, by simp; omega, fun x hx _ => ?_, fun x hx => ?_, fun x hx => ?_⟩
 · have := hl x hx
   have : x ≠ h2.next := by omega
   simp [this]
 · have := hl _ hx; omega
 · have : x ≠ h2.next := by omega
   simp only [new_get, this, if_false]
   exact m.same x hx (by simp)
 · rcases List.mem_cons.1 hx with rfl | hx
   · right; exact hm
   · exact m.new x hx
 · rcases List.mem_cons.1 hx with rfl | hx
   · simp
   · have := hl x hx; simp; omega
theorem Clone_tab (a : Spa h fa p (cTab pt) (plTab pt g)) : cl (Go.Abs.F.space_Space_Clone E) [p] h fun r h' => ∃ qt fp', Spa h' fp' r (cTab qt) (plTab qt g) ∧ Mod h [] h' fp' := by
 refine cl_of ?_
 obtain ⟨b, f, rfl, rfl, hb, hg, hA, hn⟩ := a
 simp only [Go.Abs.F.space_Space_Clone, ptr_eq_nil, kv_some, ifV_bool, Bool.false_eq_true, if_false, aNil_ptr, fieldAddr_ptr, ld_one, Nat.zero_add, rd_of hg, List.getElem?_cons_zero, List.getElem?_cons_succ]
 refine cl_then (table_Clone hA) ?_
 rintro qt h1 ⟨f1, t1, m1⟩
 have g1 : h1.get b = some (.cells (cTab pt) 4 .rw) := by rw [m1.same b hb (by simp), hg]
 simp only [rd_of g1, List.getElem?_cons_zero, List.getElem?_cons_succ, true_and]
 refine cl_then nil_clone_qu ?_
 rintro r h2 ⟨rfl, rfl⟩
 simp only [rd_of g1, List.getElem?_cons_zero, List.getElem?_cons_succ, true_and]
 refine cl_then nil_clone_to ?_
 rintro r h3 ⟨rfl, rfl⟩
 obtain ⟨⟨bq, mq, cq, rfl, _⟩, _⟩ := (⟨t1, trivial⟩ : Tab h3 f1 qt g ∧ True)
 have e1 : buildD (.struct [(.int .i64 0), (.pointer none), (.pointer none), (.pointer none)] [(0, 1), (1, 1), (2, 1), (3, 1)]) [(0, i64 1), (1, ptr bq 0), (2, nil), (3, nil)] = some (.agg #[i64 1, ptr bq 0, nil, nil]) := rfl
 have e2 : newD none (.agg #[i64 1, ptr bq 0, nil, nil]) h3 = some (ptr h3.next 0, h3.new (.cells [i64 1, ptr bq 0, nil, nil] 4 .rw)) := rfl
 simp only [rd_of g1, List.getElem?_cons_zero, true_and, e1, e2, kv_some, kP_some]
 obtain ⟨s, m⟩ := spa_new (A := plTab (ptr bq 0) g) (cs := cTab (ptr bq 0)) m1 t1
 exact ⟨_, _, s, m⟩
theorem Clone_qu {most next : Int} {items lost : List Msg} (a : Spa h fa p (cQu pt) (plQu pt most next items lost)) (hsz : items.length + lost.length ≤ 1000000) :
 cl (Go.Abs.F.space_Space_Clone E) [p] h fun r h' => ∃ qt fp', Spa h' fp' r (cQu qt) (plQu qt most next items lost) ∧ Mod h [] h' fp' := by
 refine cl_of ?_
 obtain ⟨b, f, rfl, rfl, hb, hg, hA, hn⟩ := a
 simp only [Go.Abs.F.space_Space_Clone, ptr_eq_nil, kv_some, ifV_bool, Bool.false_eq_true, if_false, aNil_ptr, fieldAddr_ptr, ld_one, Nat.zero_add, rd_of hg, List.getElem?_cons_zero, List.getElem?_cons_succ]
 refine cl_then nil_clone_tab ?_
 rintro r h2 ⟨rfl, rfl⟩
 simp only [rd_of hg, List.getElem?_cons_zero, List.getElem?_cons_succ, true_and]
 refine cl_then (queue_Clone hA hsz) ?_
 rintro qt h1 ⟨f1, t1, m1⟩
 have g1 : h1.get b = some (.cells (cQu pt) 4 .rw) := by rw [m1.same b hb (by simp), hg]
 simp only [rd_of g1, List.getElem?_cons_zero, List.getElem?_cons_succ, true_and]
 refine cl_then nil_clone_to ?_
 rintro r h3 ⟨rfl, rfl⟩
 obtain ⟨⟨bq, fi, fl, vi, vl, rfl, _⟩, _⟩ := (⟨t1, trivial⟩ : Qu h3 f1 qt most next items lost ∧ True)
 have e1 : buildD (.struct [(.int .i64 0), (.pointer none), (.pointer none), (.pointer none)] [(0, 1), (1, 1), (2, 1), (3, 1)]) [(0, i64 2), (1, nil), (2, ptr bq 0), (3, nil)] = some (.agg #[i64 2, nil, ptr bq 0, nil]) := rfl
 have e2 : newD none (.agg #[i64 2, nil, ptr bq 0, nil]) h3 = some (ptr h3.next 0, h3.new (.cells [i64 2, nil, ptr bq 0, nil] 4 .rw)) := rfl
 simp only [rd_of g1, List.getElem?_cons_zero, true_and, e1, e2, kv_some, kP_some]
 obtain ⟨s, m⟩ := spa_new (A := plQu (ptr bq 0) most next items lost) (cs := cQu (ptr bq 0)) m1 t1
 exact ⟨_, _, s, m⟩
theorem Clone_to (a : Spa h fa p (cTo pt) (plTo pt l g)) (hsz : l.length ≤ 1000000) : cl (Go.Abs.F.space_Space_Clone E) [p] h fun r h' => ∃ qt fp', Spa h' fp' r (cTo qt) (plTo qt l g) ∧ Mod h [] h' fp' := by
 refine cl_of ?_
 obtain ⟨b, f, rfl, rfl, hb, hg, hA, hn⟩ := a
 simp only [Go.Abs.F.space_Space_Clone, ptr_eq_nil, kv_some, ifV_bool, Bool.false_eq_true, if_false, aNil_ptr, fieldAddr_ptr, ld_one, Nat.zero_add, rd_of hg, List.getElem?_cons_zero, List.getElem?_cons_succ]
 refine cl_then nil_clone_tab ?_
 rintro r h2 ⟨rfl, rfl⟩
 simp only [rd_of hg, List.getElem?_cons_zero, List.getElem?_cons_succ, true_and]
 refine cl_then nil_clone_qu ?_
 rintro r h2 ⟨rfl, rfl⟩
 simp only [rd_of hg, List.getElem?_cons_zero, List.getElem?_cons_succ, true_and]
 refine cl_then (topic_Clone hA hsz) ?_
 rintro qt h1 ⟨f1, t1, m1⟩
 have g1 : h1.get b = some (.cells (cTo pt) 4 .rw) := by rw [m1.same b hb (by simp), hg]
 obtain ⟨⟨bq, mq, fl, vl, clk, rfl, _⟩, _⟩ := (⟨t1, trivial⟩ : To h1 f1 qt l g ∧ True)
 have e1 : buildD (.struct [(.int .i64 0), (.pointer none), (.pointer none), (.pointer none)] [(0, 1), (1, 1), (2, 1), (3, 1)]) [(0, i64 3), (1, nil), (2, nil), (3, ptr bq 0)] = some (.agg #[i64 3, nil, nil, ptr bq 0]) := rfl
 have e2 : newD none (.agg #[i64 3, nil, nil, ptr bq 0]) h1 = some (ptr h1.next 0, h1.new (.cells [i64 3, nil, nil, ptr bq 0] 4 .rw)) := rfl
 simp only [rd_of g1, List.getElem?_cons_zero, true_and, e1, e2, kv_some, kP_some]
 obtain ⟨s, m⟩ := spa_new (A := plTo (ptr bq 0) l g) (cs := cTo (ptr bq 0)) m1 t1
 exact ⟨_, _, s, m⟩
end Go.Abs

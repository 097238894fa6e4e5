/- Specs on abstract heaps, part 29: spaces that are compared with what is the same. -/
import Derived.Test.YtldjlkbjbkielaaGreatDoorVpaw
set_option linter.unusedSimpArgs false
set_option linter.unusedVariables false
namespace Go.Abs
open Go Go.Proofs
variable {E E1 E2 : FE} {h h' : aA} {fp : List Nat} {p q : V} {l : List ByteArray} {g : List En}
theorem Mod.nil {a : List Nat} (m : Mod h [] h' a) : Mod h [] h' [] := ⟨m.next, m.same, by simp, by simp⟩
theorem aH4 (v : V) (hv : cellsOf v = some [v]) : aQ none v h = some (ptr h.next 0, h.new (.cells [v] 1 .rw)) := by
 simp only [aQ, hv]
 rfl
def xs (i : Nat) : ByteArray := ⟨(List.replicate i (120 : UInt8)).toArray⟩
end Go.Abs
namespace Go.Abs
open Go Go.Proofs
variable {E E1 : FE} {h h' : aA} {p q pt qt : V} {l : List ByteArray} {g : List En} {fa fb : List Nat}
structure aN8 (h0 : aA) (x y : Nat) (ba bb : Nat) (ca cb : List V) : Prop where
 rp : ∀ {h'}, Mod h0 [] h' [] → h'.rd x 0 = some (ptr ba 0)
 rq : ∀ {h'}, Mod h0 [] h' [] → h'.rd y 0 = some (ptr bb 0)
 ra : ∀ {h'}, Mod h0 [] h' [] → ∀ j, h'.rd ba j = ca[j]?
 rb : ∀ {h'}, Mod h0 [] h' [] → ∀ j, h'.rd bb j = cb[j]?
theorem aRs {A B : Pl} {ca cb : List V} (a : Spa h fa p ca A) (b : Spa h fb q cb B) :
 ∃ h0 x ba bb f f', p = ptr ba 0 ∧ q = ptr bb 0 ∧ aQ none p h = some (ptr x 0, h.new (.cells [p] 1 .rw)) ∧ aQ none q (h.new (.cells [p] 1 .rw)) = some (ptr (x + 1) 0, h0) ∧ Mod h [] h0 [] ∧ aN8 h0 x (x + 1) ba bb ca cb ∧
  (∀ {h'}, Mod h0 [] h' [] → A.P h' f) ∧ (∀ {h'}, Mod h0 [] h' [] → B.P h' f') := by
 obtain ⟨ba, f, rfl, rfl, hba, hga, hA, hna⟩ := a
 obtain ⟨bb, f', rfl, rfl, hbb, hgb, hB, hnb⟩ := b
 have m0 : Mod h [] ((h.new (.cells [ptr ba 0] 1 .rw)).new (.cells [ptr bb 0] 1 .rw)) [] := (Mod.oQ _).trans (Mod.oQ _)
 have g1 : ((h.new (.cells [ptr ba 0] 1 .rw)).new (.cells [ptr bb 0] 1 .rw)).get h.next = some (.cells [ptr ba 0] 1 .rw) := by simp
 have g2 : ((h.new (.cells [ptr ba 0] 1 .rw)).new (.cells [ptr bb 0] 1 .rw)).get (h.next + 1) = some (.cells [ptr bb 0] 1 .rw) := by simp
 have n1 : h.next < ((h.new (.cells [ptr ba 0] 1 .rw)).new (.cells [ptr bb 0] 1 .rw)).next := by simp; omega
 have n2 : h.next + 1 < ((h.new (.cells [ptr ba 0] 1 .rw)).new (.cells [ptr bb 0] 1 .rw)).next := by simp
 refine ⟨_, h.next, ba, bb, f, f', rfl, rfl, rfl, rfl, m0, ⟨fun m => ?_, fun m => ?_, fun m j => ?_, fun m j => ?_⟩, fun m => ?_, fun m => ?_⟩
 · rw [rC m n1]; exact aG g1 0
 · rw [rC m n2]; exact aG g2 0
 · have mm := m0.trans m
   rw [rC mm hba]; exact aG hga j
 · have mm := m0.trans m
   rw [rC mm hbb]; exact aG hgb j
 · have mm := m0.trans m
   exact A.same _ _ _ hA mm.next fun x hx => mm.same x (A.lt _ _ hA x hx) (by simp)
 · have mm := m0.trans m
   exact B.same _ _ _ hB mm.next fun x hx => mm.same x (B.lt _ _ hB x hx) (by simp)
theorem aLk : cl (Go.Abs.F.jY E) [nil] h fun r h' => r = nil ∧ h' = h := by
 refine aO ?_
 simp only [Go.Abs.F.jY, tP, aB, aF, if_true]
 exact ⟨trivial, trivial⟩
theorem aLj : cl (Go.Abs.F.jU E) [nil] h fun r h' => r = nil ∧ h' = h := by
 refine aO ?_
 simp only [Go.Abs.F.jU, tP, aB, aF, if_true]
 exact ⟨trivial, trivial⟩
theorem aLl : cl (Go.Abs.F.kD E) [nil] h fun r h' => r = nil ∧ h' = h := by
 refine aO ?_
 simp only [Go.Abs.F.kD, tP, aB, aF, if_true]
 exact ⟨trivial, trivial⟩
theorem aGg {A : Pl} {cs : List V} {h2 : aA} {f : List Nat} (m : Mod h [] h2 f) (hA : A.P h2 f) :
 Spa (h2.new (.cells cs 4 .rw)) (h2.next :: f) (ptr h2.next 0) cs A ∧ Mod h [] (h2.new (.cells cs 4 .rw)) (h2.next :: f) := by
 have hl := A.lt _ _ hA
 have hm := m.next
 refine ⟨⟨h2.next, f, rfl, rfl, by simp, by simp, A.same _ _ _ hA (by simp) fun x hx => ?_, fun hx => ?_⟩, by simp; omega, fun x hx _ => ?_, fun x hx => ?_, fun x hx => ?_⟩
 · have := hl x hx
   have : x ≠ h2.next := by omega
   simp [this]
 · have := hl _ hx; omega
 · have : x ≠ h2.next := by omega
   simp only [aLh, this, if_false]
   exact m.same x hx (by simp)
 · rcases List.mem_cons.1 hx with rfl | hx
   · right; exact hm
   · exact m.new x hx
 · rcases List.mem_cons.1 hx with rfl | hx
   · simp
   · have := hl x hx; simp; omega
theorem aNz (a : Spa h fa p (oR pt) (jS pt g)) : cl (Go.Abs.F.eE E) [p] h fun r h' => ∃ qt fp', Spa h' fp' r (oR qt) (jS qt g) ∧ Mod h [] h' fp' := by
 refine aO ?_
 obtain ⟨b, f, rfl, rfl, hb, hg, hA, hn⟩ := a
 simp only [Go.Abs.F.eE, dF, aB, aF, Bool.false_eq_true, if_false, bK, bH, bC, Nat.zero_add, aG hg, List.getElem?_cons_zero, List.getElem?_cons_succ]
 refine aL (aWm hA) ?_
 rintro qt h1 ⟨f1, t1, m1⟩
 have g1 : h1.get b = some (.cells (oR pt) 4 .rw) := by rw [m1.same b hb (by simp), hg]
 simp only [aG g1, List.getElem?_cons_zero, List.getElem?_cons_succ, true_and]
 refine aL aLj ?_
 rintro r h2 ⟨rfl, rfl⟩
 simp only [aG g1, List.getElem?_cons_zero, List.getElem?_cons_succ, true_and]
 refine aL aLl ?_
 rintro r h3 ⟨rfl, rfl⟩
 obtain ⟨⟨bq, mq, cq, rfl, _⟩, _⟩ := (⟨t1, trivial⟩ : Tab h3 f1 qt g ∧ True)
 have e1 : bP (.struct [(.int .i64 0), (.pointer none), (.pointer none), (.pointer none)] [(0, 1), (1, 1), (2, 1), (3, 1)]) [(0, i64 1), (1, ptr bq 0), (2, nil), (3, nil)] = some (.agg #[i64 1, ptr bq 0, nil, nil]) := rfl
 have e2 : aQ none (.agg #[i64 1, ptr bq 0, nil, nil]) h3 = some (ptr h3.next 0, h3.new (.cells [i64 1, ptr bq 0, nil, nil] 4 .rw)) := rfl
 simp only [aG g1, List.getElem?_cons_zero, true_and, e1, e2, aB, bA]
 obtain ⟨s, m⟩ := aGg (A := jS (ptr bq 0) g) (cs := oR (ptr bq 0)) m1 t1
 exact ⟨_, _, s, m⟩
theorem aNy {most next : Int} {items lost : List Msg} (a : Spa h fa p (cQu pt) (eN pt most next items lost)) (hsz : items.length + lost.length ≤ 1000000) :
 cl (Go.Abs.F.eE E) [p] h fun r h' => ∃ qt fp', Spa h' fp' r (cQu qt) (eN qt most next items lost) ∧ Mod h [] h' fp' := by
 refine aO ?_
 obtain ⟨b, f, rfl, rfl, hb, hg, hA, hn⟩ := a
 simp only [Go.Abs.F.eE, dF, aB, aF, Bool.false_eq_true, if_false, bK, bH, bC, Nat.zero_add, aG hg, List.getElem?_cons_zero, List.getElem?_cons_succ]
 refine aL aLk ?_
 rintro r h2 ⟨rfl, rfl⟩
 simp only [aG hg, List.getElem?_cons_zero, List.getElem?_cons_succ, true_and]
 refine aL (aVa hA hsz) ?_
 rintro qt h1 ⟨f1, t1, m1⟩
 have g1 : h1.get b = some (.cells (cQu pt) 4 .rw) := by rw [m1.same b hb (by simp), hg]
 simp only [aG g1, List.getElem?_cons_zero, List.getElem?_cons_succ, true_and]
 refine aL aLl ?_
 rintro r h3 ⟨rfl, rfl⟩
 obtain ⟨⟨bq, fi, fl, vi, vl, rfl, _⟩, _⟩ := (⟨t1, trivial⟩ : Qu h3 f1 qt most next items lost ∧ True)
 have e1 : bP (.struct [(.int .i64 0), (.pointer none), (.pointer none), (.pointer none)] [(0, 1), (1, 1), (2, 1), (3, 1)]) [(0, i64 2), (1, nil), (2, ptr bq 0), (3, nil)] = some (.agg #[i64 2, nil, ptr bq 0, nil]) := rfl
 have e2 : aQ none (.agg #[i64 2, nil, ptr bq 0, nil]) h3 = some (ptr h3.next 0, h3.new (.cells [i64 2, nil, ptr bq 0, nil] 4 .rw)) := rfl
 simp only [aG g1, List.getElem?_cons_zero, true_and, e1, e2, aB, bA]
 obtain ⟨s, m⟩ := aGg (A := eN (ptr bq 0) most next items lost) (cs := cQu (ptr bq 0)) m1 t1
 exact ⟨_, _, s, m⟩
theorem aN0 (a : Spa h fa p (cTo pt) (kZ pt l g)) (hsz : l.length ≤ 1000000) : cl (Go.Abs.F.eE E) [p] h fun r h' => ∃ qt fp', Spa h' fp' r (cTo qt) (kZ qt l g) ∧ Mod h [] h' fp' := by
 refine aO ?_
 obtain ⟨b, f, rfl, rfl, hb, hg, hA, hn⟩ := a
 simp only [Go.Abs.F.eE, dF, aB, aF, Bool.false_eq_true, if_false, bK, bH, bC, Nat.zero_add, aG hg, List.getElem?_cons_zero, List.getElem?_cons_succ]
 refine aL aLk ?_
 rintro r h2 ⟨rfl, rfl⟩
 simp only [aG hg, List.getElem?_cons_zero, List.getElem?_cons_succ, true_and]
 refine aL aLj ?_
 rintro r h2 ⟨rfl, rfl⟩
 simp only [aG hg, List.getElem?_cons_zero, List.getElem?_cons_succ, true_and]
 refine aL (aWw hA hsz) ?_
 rintro qt h1 ⟨f1, t1, m1⟩
 have g1 : h1.get b = some (.cells (cTo pt) 4 .rw) := by rw [m1.same b hb (by simp), hg]
 obtain ⟨⟨bq, mq, fl, vl, clk, rfl, _⟩, _⟩ := (⟨t1, trivial⟩ : To h1 f1 qt l g ∧ True)
 have e1 : bP (.struct [(.int .i64 0), (.pointer none), (.pointer none), (.pointer none)] [(0, 1), (1, 1), (2, 1), (3, 1)]) [(0, i64 3), (1, nil), (2, nil), (3, ptr bq 0)] = some (.agg #[i64 3, nil, nil, ptr bq 0]) := rfl
 have e2 : aQ none (.agg #[i64 3, nil, nil, ptr bq 0]) h1 = some (ptr h1.next 0, h1.new (.cells [i64 3, nil, nil, ptr bq 0] 4 .rw)) := rfl
 simp only [aG g1, List.getElem?_cons_zero, true_and, e1, e2, aB, bA]
 obtain ⟨s, m⟩ := aGg (A := kZ (ptr bq 0) l g) (cs := cTo (ptr bq 0)) m1 t1
 exact ⟨_, _, s, m⟩
end Go.Abs

/- Specs on abstract heaps, part 13: the document's spaces (estafetteref8): what one is; New, Send. -/
import Derived.Test.YthilcedkapakpaaGreatDoorRepB
set_option linter.unusedSimpArgs false
set_option linter.unusedVariables false
namespace Go.Abs
open Go

/-- A key and its text, or a group and where it is. -/
structure Pr where
  key : ByteArray
  val : ByteArray
  at_ : Int

def Pr.cells (p : Pr) : List V := [str p.key, str p.val, i64 p.at_]

def Prs (h : AHeap) (fp : List Nat) (v : V) (l : List Pr) : Prop := Sl h fp v 3 l.length (l.flatMap Pr.cells)

theorem Prs.lt {h : AHeap} {fp : List Nat} {v : V} {l : List Pr} (s : Prs h fp v l) : ∀ x ∈ fp, x < h.next := Sl.lt s
theorem Prs.same {h h' : AHeap} {fp : List Nat} {v : V} {l : List Pr} (s : Prs h fp v l) (hl : h.next ≤ h'.next) (hs : ∀ x ∈ fp, h'.get x = h.get x) : Prs h' fp v l := Sl.same s hl hs

/-- What a space of the document's holds. -/
structure SpM where
  name : ByteArray
  kind : Int
  pairs : List Pr
  most : Int
  items : List Msg
  lost : List Msg
  next : Int

/-- A space of the document's: its variable's block, its three lists. -/
structure SpC (h : AHeap) (b : Nat) (fP fI fL : List Nat) (vP vI vL : V) (s : SpM) : Prop where
  b_lt : b < h.next
  cell : h.get b = some (.cells [str s.name, i64 s.kind, vP, i64 s.most, vI, vL, i64 s.next] 7 .rw)
  pairs : Prs h fP vP s.pairs
  items : Ms h fI vI s.items
  lost : Ms h fL vL s.lost
  bP : b ∉ fP
  bI : b ∉ fI
  bL : b ∉ fL
  PI : ∀ x ∈ fP, x ∉ fI
  PL : ∀ x ∈ fP, x ∉ fL
  IL : ∀ x ∈ fI, x ∉ fL

def Sp (h : AHeap) (fp : List Nat) (p : V) (s : SpM) : Prop :=
  ∃ b fP fI fL vP vI vL, p = ptr b 0 ∧ fp = b :: (fP ++ (fI ++ fL)) ∧ SpC h b fP fI fL vP vI vL s

variable {E : FE} {h h' : AHeap} {fp : List Nat} {p : V} {s : SpM} {b : Nat} {fP fI fL : List Nat} {vP vI vL : V}

theorem SpC.lt (c : SpC h b fP fI fL vP vI vL s) : ∀ x ∈ b :: (fP ++ (fI ++ fL)), x < h.next := by
  intro x hx
  simp only [List.mem_cons, List.mem_append] at hx
  rcases hx with rfl | hx | hx | hx
  · exact c.b_lt
  · exact c.pairs.lt x hx
  · exact c.items.lt x hx
  · exact c.lost.lt x hx

theorem Sp.lt (c : Sp h fp p s) : ∀ x ∈ fp, x < h.next := by
  obtain ⟨b, fP, fI, fL, vP, vI, vL, rfl, rfl, c⟩ := c
  exact c.lt

theorem SpC.same (c : SpC h b fP fI fL vP vI vL s) (hl : h.next ≤ h'.next) (hs : ∀ x ∈ b :: (fP ++ (fI ++ fL)), h'.get x = h.get x) : SpC h' b fP fI fL vP vI vL s :=
  ⟨by have := c.b_lt; omega, by rw [hs b (by simp), c.cell], c.pairs.same hl fun x hx => hs x (by simp [hx]), c.items.same hl fun x hx => hs x (by simp [hx]), c.lost.same hl fun x hx => hs x (by simp [hx]), c.bP, c.bI, c.bL, c.PI, c.PL, c.IL⟩

theorem Sp.same (c : Sp h fp p s) (hl : h.next ≤ h'.next) (hs : ∀ x ∈ fp, h'.get x = h.get x) : Sp h' fp p s := by
  obtain ⟨b, fP, fI, fL, vP, vI, vL, rfl, rfl, c⟩ := c
  exact ⟨b, fP, fI, fL, vP, vI, vL, rfl, rfl, c.same hl hs⟩

/-- New items are stored. -/
theorem SpC.setItems (c : SpC h b fP fI fL vP vI vL s) {fI' : List Nat} {vI' : V} {l : List Msg} (m : Mod h fI h' fI') (hI : Ms h' fI' vI' l) (next : Int) :
    let h2 := h'.put b (.cells [str s.name, i64 s.kind, vP, i64 s.most, vI', vL, i64 next] 7 .rw)
    SpC h2 b fP fI' fL vP vI' vL { s with items := l, next := next } ∧ Mod h (b :: (fP ++ (fI ++ fL))) h2 (b :: (fP ++ (fI' ++ fL))) := by
  intro h2
  have bI' : b ∉ fI' := fun hx => by rcases m.new b hx with hx | hx; exact c.bI hx; have := c.b_lt; omega
  have put : ∀ x, x ≠ b → h2.get x = h'.get x := fun x hx => by simp [h2, hx]
  have hn : h2.next = h'.next := rfl
  have oldP : ∀ x ∈ fP, h2.get x = h.get x := fun x hx => by rw [put x fun e => c.bP (e ▸ hx), m.same x (c.pairs.lt x hx) (c.PI x hx)]
  have oldL : ∀ x ∈ fL, h2.get x = h.get x := fun x hx => by rw [put x fun e => c.bL (e ▸ hx), m.same x (c.lost.lt x hx) fun hx' => c.IL x hx' hx]
  have hc : SpC h2 b fP fI' fL vP vI' vL { s with items := l, next := next } := by
    refine ⟨?_, ?_, c.pairs.same ?_ oldP, hI.same ?_ fun x hx => put x fun e => bI' (e ▸ hx), c.lost.same ?_ oldL, c.bP, bI', c.bL, fun x hx hx' => ?_, c.PL, fun x hx hx' => ?_⟩
    · have := c.b_lt; have := m.next; rw [hn]; omega
    · simp [h2]
    · rw [hn]; exact m.next
    · rw [hn]; exact Nat.le_refl _
    · rw [hn]; exact m.next
    · rcases m.new x hx' with h1 | h1
      · exact c.PI x hx h1
      · have := c.pairs.lt x hx; omega
    · rcases m.new x hx with h1 | h1
      · exact c.IL x h1 hx'
      · have := c.lost.lt x hx'; omega
  refine ⟨hc, ?_, fun x hx hnx => ?_, fun x hx => ?_, hc.lt⟩
  · rw [hn]; exact m.next
  · simp only [List.mem_cons, List.mem_append, not_or] at hnx
    rw [put x hnx.1, m.same x hx hnx.2.2.1]
  · simp only [List.mem_cons, List.mem_append] at hx ⊢
    rcases hx with rfl | hx | hx | hx
    · simp
    · simp [hx]
    · rcases m.new x hx with h1 | h1
      · simp [h1]
      · exact .inr h1
    · simp [hx]

theorem ref8_New (kind most : Int) : cl (F.estafetteref8_New E) [i64 kind, i64 most] h fun r h' => ∃ fp, Sp h' fp r ⟨⟨#[]⟩, kind, [], max 1 (min most 9), [], [], 1⟩ ∧ Mod h [] h' fp := by
  refine cl_of ?_
  simp only [F.estafetteref8_New, min2, kv_some, max2]
  generalize max 1 (min most 9) = m
  have e1 : buildD (.struct [(.string ⟨#[]⟩), (.int .i64 0), (.slice none 0 0), (.int .i64 0), (.slice none 0 0), (.slice none 0 0), (.int .i64 0)] [(0, 1), (1, 1), (2, 1), (3, 1), (4, 1), (5, 1), (6, 1)]) [(1, i64 kind), (3, i64 m), (6, i64 1)] =
    some (.agg #[str ⟨#[]⟩, i64 kind, .slice none 0 0, i64 m, .slice none 0 0, .slice none 0 0, i64 1]) := rfl
  have e2 : ∀ a b c d e f g : V, newD none (.agg #[a, b, c, d, e, f, g]) h = some (ptr h.next 0, h.new (.cells [a, b, c, d, e, f, g] 7 .rw)) := fun _ _ _ _ _ _ _ => rfl
  simp only [e1, kv_some, e2, kP_some]
  refine ⟨[h.next], ⟨h.next, [], [], [], .slice none 0 0, .slice none 0 0, .slice none 0 0, rfl, rfl, by simp, by simp, Sl.nil, Sl.nil, Sl.nil, by simp, by simp, by simp, by simp, by simp, by simp⟩, by simp, fun x hx _ => ?_, by simp, by simp⟩
  have : x ≠ h.next := by omega
  simp [this]

end Go.Abs

set_option linter.unusedSimpArgs false
set_option linter.unusedVariables false
namespace Go.Abs
open Go
variable {E : FE} {h h' : AHeap} {fp : List Nat} {p : V} {s : SpM}

theorem put_put (h : AHeap) (b : Nat) (x y : AObj) : (h.put b x).put b y = h.put b y := by
  unfold AHeap.put
  congr 1
  funext z
  simp only
  split <;> rfl

theorem ref8_Send (c : Sp h fp p s) (x : ByteArray) (hn : 0 ≤ s.next ∧ s.next < 9223372036854775807) (hsz : s.items.length + s.lost.length ≤ 1000000) :
    cl (F.estafetteref8_Space_Send E) [p, str x] h fun r h' =>
      if s.items.length + s.lost.length < 64 then r = .tuple #[i64 s.next, .bool true] ∧ ∃ fp', Sp h' fp' p { s with items := s.items ++ [⟨s.next, x, 0, 0⟩], next := s.next + 1 } ∧ Mod h fp h' fp'
      else r = .tuple #[i64 0, .bool false] ∧ h' = h := by
  obtain ⟨b, fP, fI, fL, vP, vI, vL, rfl, rfl, c⟩ := c
  refine cl_of ?_
  have l1 := Sl.len c.items
  have l2 := Sl.len c.lost
  simp only [F.estafetteref8_Space_Send, kv_some, aNil_ptr, fieldAddr_ptr, ld_one, rd_of c.cell, Nat.zero_add, List.getElem?_cons_succ, List.getElem?_cons_zero, l1, l2]
  rw [add_i64 _ _ (by omega) (by omega), kv_some]
  simp only [bin_geq, kv_some, ifV_bool]
  by_cases hc : s.items.length + s.lost.length < 64
  · have hd : ¬ ((s.items.length : Int) + (s.lost.length : Int) ≥ 64) := by omega
    simp only [hd, decide_false, if_pos hc, Bool.false_eq_true, if_false]
    have e1 : buildD (.struct [(.int .i64 0), (.string ⟨#[]⟩), (.int .i64 0), (.int .i64 0)] [(0, 1), (1, 1), (2, 1), (3, 1)]) [(0, i64 s.next), (1, str x)] = some (.agg #[i64 s.next, str x, i64 0, i64 0]) := rfl
    have e2 : buildSliceD (some (4, [(.int .i64 0), (.string ⟨#[]⟩), (.int .i64 0), (.int .i64 0)])) 1 [(0, .agg #[i64 s.next, str x, i64 0, i64 0])] h =
      some (.slice (some ⟨h.next, 0, none⟩) 1 2, h.new (.cells [i64 s.next, str x, i64 0, i64 0] 4 .rw)) := rfl
    simp only [e1, kv_some, e2, kP_some]
    have m0 : Mod h (b :: (fP ++ (fI ++ fL))) (h.new (.cells [i64 s.next, str x, i64 0, i64 0] 4 .rw)) (b :: (fP ++ (fI ++ fL))) := Mod.newBox c.lt
    have c1 : SpC (h.new (.cells [i64 s.next, str x, i64 0, i64 0] 4 .rw)) b fP fI fL vP vI vL s := c.same (by simp) fun y hy => by
      have := c.lt y hy
      have : y ≠ h.next := by omega
      simp [this]
    obtain ⟨v', h1, fI', a1, a2, a3⟩ := Sl.append c1.items (x := .slice (some ⟨h.next, 0, none⟩) 1 2) (k := 1) (bytes := 40) (z := zMsg) (new := (⟨s.next, x, 0, 0⟩ : Msg).cells) rfl (by decide) (by decide) rfl
      (fun _ => by simp [aSrc, sliceCells, AHeap.rdN, Msg.cells]) rfl rfl (by omega)
    simp only [rd_of c1.cell, List.getElem?_cons_succ, List.getElem?_cons_zero, true_and]
    simp only [zMsg] at a1
    rw [a1]
    simp only [kP_some]
    have g2 : h1.get b = some (.cells [str s.name, i64 s.kind, vP, i64 s.most, vI, vL, i64 s.next] 7 .rw) := by rw [a3.same b c1.b_lt c.bI]; exact c1.cell
    obtain ⟨q1, q2⟩ := Sl.cell a2
    rw [st_one g2 (by simp) q1 q2 (by simp)]
    simp only [kH_some, List.set_cons_succ, List.set_cons_zero]
    have g3 : (h1.put b (.cells [str s.name, i64 s.kind, vP, i64 s.most, v', vL, i64 s.next] 7 .rw)).get b = some (.cells [str s.name, i64 s.kind, vP, i64 s.most, v', vL, i64 s.next] 7 .rw) := by simp
    simp only [rd_of g3, List.getElem?_cons_succ, List.getElem?_cons_zero, kv_some]
    rw [add_i64 s.next 1 (by omega) (by omega), kv_some, st_one g3 (by simp) rfl rfl (by simp)]
    simp only [kH_some, List.set_cons_succ, List.set_cons_zero, put_put]
    have hI : Ms h1 fI' v' (s.items ++ [⟨s.next, x, 0, 0⟩]) := by simpa [Ms] using a2
    obtain ⟨c2, m2⟩ := c1.setItems a3 hI (s.next + 1)
    simp only [rd_of c2.cell, List.getElem?_cons_succ, List.getElem?_cons_zero, kv_some]
    rw [sub_i64 _ 1 (by omega) (by omega), kv_some]
    refine ⟨?_, _, ⟨b, fP, fI', fL, vP, v', vL, rfl, rfl, c2⟩, m0.trans m2⟩
    rw [show s.next + 1 - 1 = s.next by omega]
  · have hd : (s.items.length : Int) + (s.lost.length : Int) ≥ 64 := by omega
    simp only [hd, decide_true, if_neg hc, if_true]
    exact ⟨trivial, trivial⟩

end Go.Abs

set_option linter.unusedSimpArgs false
set_option linter.unusedVariables false
namespace Go.Abs
open Go
variable {E : FE} {h h' : AHeap} {fp : List Nat} {p : V} {s : SpM} {b : Nat} {fP fI fL : List Nat} {vP vI vL : V}

/-- New lost ones are stored. -/
theorem SpC.setLost (c : SpC h b fP fI fL vP vI vL s) {fL' : List Nat} {vL' : V} {l : List Msg} (m : Mod h fL h' fL') (hL : Ms h' fL' vL' l) :
    let h2 := h'.put b (.cells [str s.name, i64 s.kind, vP, i64 s.most, vI, vL', i64 s.next] 7 .rw)
    SpC h2 b fP fI fL' vP vI vL' { s with lost := l } ∧ Mod h (b :: (fP ++ (fI ++ fL))) h2 (b :: (fP ++ (fI ++ fL'))) := by
  intro h2
  have bL' : b ∉ fL' := fun hx => by rcases m.new b hx with hx | hx; exact c.bL hx; have := c.b_lt; omega
  have put : ∀ x, x ≠ b → h2.get x = h'.get x := fun x hx => by simp [h2, hx]
  have hn : h2.next = h'.next := rfl
  have oldP : ∀ x ∈ fP, h2.get x = h.get x := fun x hx => by rw [put x fun e => c.bP (e ▸ hx), m.same x (c.pairs.lt x hx) (c.PL x hx)]
  have oldI : ∀ x ∈ fI, h2.get x = h.get x := fun x hx => by rw [put x fun e => c.bI (e ▸ hx), m.same x (c.items.lt x hx) (c.IL x hx)]
  have hc : SpC h2 b fP fI fL' vP vI vL' { s with lost := l } := by
    refine ⟨?_, ?_, c.pairs.same ?_ oldP, c.items.same ?_ oldI, hL.same ?_ fun x hx => put x fun e => bL' (e ▸ hx), c.bP, c.bI, bL', c.PI, fun x hx hx' => ?_, fun x hx hx' => ?_⟩
    · have := c.b_lt; have := m.next; rw [hn]; omega
    · simp [h2]
    · rw [hn]; exact m.next
    · rw [hn]; exact m.next
    · rw [hn]; exact Nat.le_refl _
    · rcases m.new x hx' with h1 | h1
      · exact c.PL x hx h1
      · have := c.pairs.lt x hx; omega
    · rcases m.new x hx' with h1 | h1
      · exact c.IL x hx h1
      · have := c.items.lt x hx; omega
  refine ⟨hc, ?_, fun x hx hnx => ?_, fun x hx => ?_, hc.lt⟩
  · rw [hn]; exact m.next
  · simp only [List.mem_cons, List.mem_append, not_or] at hnx
    rw [put x hnx.1, m.same x hx hnx.2.2.2]
  · simp only [List.mem_cons, List.mem_append] at hx ⊢
    rcases hx with rfl | hx | hx | hx
    · simp
    · simp [hx]
    · simp [hx]
    · rcases m.new x hx with h1 | h1
      · simp [h1]
      · exact .inr h1

/-- A list of its own, of what is read. -/
theorem fresh_msgs {x : V} {l : List Msg} (hx : aLenOf x = some l.length) (hs : l.length ≠ 0 → aSrc 4 x h = some (msgsC l)) (hsz : l.length ≤ 1000000) :
    ∃ v' h' fp', appendD (some (4, 40, [(.int .i64 0), (.string ⟨#[]⟩), (.int .i64 0), (.int .i64 0)])) (.slice none 0 0) x h = some (v', h') ∧ Ms h' fp' v' l ∧ Mod h [] h' fp' := by
  have hlen : (msgsC l).length = l.length * 4 := by
    induction l with
    | nil => rfl
    | cons m l ih =>
      have ih' := ih
      show (m.cells ++ msgsC l).length = _
      rw [List.length_append]
      have : m.cells.length = 4 := rfl
      have h2 : ∀ l : List Msg, (msgsC l).length = l.length * 4 := by
        intro l
        induction l with
        | nil => rfl
        | cons m l ih => show (m.cells ++ msgsC l).length = _; rw [List.length_append, ih, List.length_cons]; have : m.cells.length = 4 := rfl; omega
      rw [h2, List.length_cons]
      omega
  obtain ⟨v', h', fp', a1, a2, a3⟩ := Sl.append (h := h) (v := .slice none 0 0) (n := 0) (cs := []) (fp := []) (Sl.nil) (x := x) (k := l.length) (bytes := 40) (z := zMsg) (new := msgsC l) rfl (by decide) (by decide) hx hs hlen (msgsC_one l) (by omega)
  exact ⟨v', h', fp', a1, by simpa [Ms] using a2, a3⟩

theorem ref8_Dead (c : Sp h fp p s) (hsz : s.lost.length ≤ 1000000) :
    cl (F.estafetteref8_Space_Dead E) [p] h fun r h' => ∃ fp', r = .tuple #[(s.lost.head?.getD Msg.zero).agg, .bool (!s.lost.isEmpty)] ∧ Sp h' fp' p { s with lost := s.lost.tail } ∧ Mod h fp h' fp' := by
  obtain ⟨b, fP, fI, fL, vP, vI, vL, rfl, rfl, c⟩ := c
  refine cl_of ?_
  simp only [F.estafetteref8_Space_Dead, new4, kP_some, aNil_ptr, kv_some, fieldAddr_ptr, ld_one, Nat.zero_add]
  generalize hb1 : h.new (.cells [.int .i64 0, .string ⟨#[]⟩, .int .i64 0, .int .i64 0] 4 .rw) = g1
  have n1 : g1.next = h.next + 1 := by rw [← hb1]; rfl
  have gb1 : g1.get h.next = some (.cells [.int .i64 0, .string ⟨#[]⟩, .int .i64 0, .int .i64 0] 4 .rw) := by rw [← hb1]; simp
  have m1 : Mod h (b :: (fP ++ (fI ++ fL))) g1 (b :: (fP ++ (fI ++ fL))) := by rw [← hb1]; exact Mod.newBox c.lt
  have c1 : SpC g1 b fP fI fL vP vI vL s := c.same (by omega) fun y hy => by
    have := c.lt y hy
    rw [← hb1]
    simp [Nat.ne_of_lt this]
  have l2 := Sl.len c1.lost
  simp only [rd_of c1.cell, List.getElem?_cons_succ, List.getElem?_cons_zero, kv_some, l2, bin_eql, ifV_bool]
  cases hl : s.lost with
  | nil =>
    have e0 : (((0 : Nat) : Int) == 0) = true := rfl
    have ez : buildD (.struct [(.int .i64 0), (.string ⟨#[]⟩), (.int .i64 0), (.int .i64 0)] [(0, 1), (1, 1), (2, 1), (3, 1)]) [] = some Msg.zero.agg := rfl
    simp only [List.length_nil, e0, if_true, ez, kv_some]
    rw [st4 gb1, kH_some]
    have gz : (g1.put h.next (.cells Msg.zero.cells 4 .rw)).get h.next = some (.cells Msg.zero.cells 4 .rw) := by simp
    rw [ld4 gz, kv_some]
    refine ⟨_, rfl, ⟨b, fP, fI, fL, vP, vI, vL, rfl, rfl, ?_⟩, m1.putNew (Nat.le_refl _)⟩
    have := c1.same (h' := g1.put h.next (.cells Msg.zero.cells 4 .rw)) (by simp) fun y hy => by
      have := c.lt y hy
      simp [Nat.ne_of_lt this]
    have e : ({ s with lost := ([] : List Msg).tail } : SpM) = s := by cases s; simp only at hl; subst hl; rfl
    rw [e]
    exact this
  | cons m rest =>
    have e0 : (((m :: rest).length : Int) == 0) = false := by simp; omega
    simp only [e0, Bool.false_eq_true, if_false]
    obtain ⟨bb, x1, _, x2, _⟩ := Ms.at c1.lost (i := 0) (m := m) (by rw [hl]; rfl)
    have x1' : indexAddrD (.slice 4) vL (.int .i64 0) = some (ptr bb (0 * 4)) := x1
    simp only [x1', kv_some, x2]
    generalize hb2 : g1.new (.cells [.int .i64 0, .string ⟨#[]⟩, .int .i64 0, .int .i64 0] 4 .rw) = g2
    have gb2 : g2.get g1.next = some (.cells [.int .i64 0, .string ⟨#[]⟩, .int .i64 0, .int .i64 0] 4 .rw) := by rw [← hb2]; simp
    rw [st4 gb2, kH_some]
    generalize hb3 : g2.put g1.next (.cells m.cells 4 .rw) = g3
    have n3 : g3.next = h.next + 2 := by rw [← hb3, ← hb2]; simp [n1]
    have gb3 : g3.get g1.next = some (.cells m.cells 4 .rw) := by rw [← hb3]; simp
    have gk : ∀ y, y < g1.next → g3.get y = g1.get y := fun y hy => by rw [← hb3, ← hb2]; simp [Nat.ne_of_lt hy]
    have m3 : Mod h (b :: (fP ++ (fI ++ fL))) g3 (b :: (fP ++ (fI ++ fL))) := by
      rw [← hb3, ← hb2]
      exact (m1.trans (Mod.newBox c1.lt)).putNew (by omega)
    have c3 : SpC g3 b fP fI fL vP vI vL s := c1.same (by omega) fun y hy => gk y (c1.lt y hy)
    simp only [rd_of c3.cell, List.getElem?_cons_succ, List.getElem?_cons_zero, kv_some]
    obtain ⟨v', y1, y2, y3⟩ := Sl.post c3.lost (k := 1) (t := .i64) (by rw [hl]; simp)
    have y1' : sliceD (.slice 4) vL (some (.int .i64 1)) none none g3 = some v' := y1
    rw [y1', kv_some]
    have hrl : s.lost.length - 1 = rest.length := by rw [hl]; simp
    rw [hrl] at y2 y3
    have hmd : (msgsC s.lost).drop (1 * 4) = msgsC rest := by rw [msgsC_drop, hl]; rfl
    rw [hmd] at y3
    obtain ⟨vL', h4, fL', a1, a2, a3⟩ := fresh_msgs y2 y3 (by rw [hl] at hsz; simp at hsz; omega)
    rw [a1, kP_some]
    have a3' : Mod g3 fL h4 fL' := ⟨a3.next, fun x hx _ => a3.same x hx (by simp), fun x hx => by rcases a3.new x hx with h1 | h1; simp at h1; exact .inr h1, a3.lt⟩
    have g4 : h4.get b = some (.cells [str s.name, i64 s.kind, vP, i64 s.most, vI, vL, i64 s.next] 7 .rw) := by rw [a3.same b c3.b_lt (by simp)]; exact c3.cell
    obtain ⟨q1, q2⟩ := Sl.cell a2
    rw [st_one g4 (by simp) q1 q2 (by simp)]
    simp only [kH_some, List.set_cons_succ, List.set_cons_zero]
    obtain ⟨c5, m5⟩ := c3.setLost a3' a2
    generalize hb5 : h4.put b (.cells [str s.name, i64 s.kind, vP, i64 s.most, vI, vL', i64 s.next] 7 .rw) = g5 at c5 m5
    have n5 : g5.next = h4.next := by rw [← hb5]; rfl
    have hbn : b ≠ g1.next := by have := c1.b_lt; omega
    have hbn0 : b ≠ h.next := by have := c.b_lt; omega
    have gb5 : g5.get g1.next = some (.cells m.cells 4 .rw) := by
      rw [← hb5]
      simp only [put_get, Ne.symm hbn, if_false]
      rw [a3.same g1.next (by omega) (by simp), gb3]
    have gb6 : g5.get h.next = some (.cells [.int .i64 0, .string ⟨#[]⟩, .int .i64 0, .int .i64 0] 4 .rw) := by
      rw [← hb5]
      simp only [put_get, Ne.symm hbn0, if_false]
      rw [a3.same h.next (by omega) (by simp), gk h.next (by omega), gb1]
    rw [ld4 gb5, kv_some, st4 gb6, kH_some]
    have gz : (g5.put h.next (.cells m.cells 4 .rw)).get h.next = some (.cells m.cells 4 .rw) := by simp
    rw [ld4 gz, kv_some]
    refine ⟨_, rfl, ⟨b, fP, fI, fL', vP, vI, vL', rfl, rfl, ?_⟩, (m3.trans m5).putNew (Nat.le_refl _)⟩
    refine c5.same (by simp) fun y hy => ?_
    have hy2 : y ≠ h.next := by
      simp only [List.mem_cons, List.mem_append] at hy
      rcases hy with rfl | hy | hy | hy
      · exact hbn0
      · have := c.pairs.lt y hy; omega
      · have := c.items.lt y hy; omega
      · rcases a3.new y hy with h1 | h1
        · simp at h1
        · omega
    simp [hy2]

end Go.Abs

set_option linter.unusedSimpArgs false
set_option linter.unusedVariables false
namespace Go.Abs
open Go
variable {E : FE} {h h' : AHeap} {fp : List Nat} {p : V} {s : SpM}

/-- A list of its own, of what a list holds. -/
theorem Sl.fresh {v : V} {es n bytes : Nat} {cs z : List V} (c : Sl h fp v es n cs) (hz : z.length = es) (he : 0 < es) (hby : bytes ≤ 64) (h1 : cs.all oneCell = true) (hsz : n ≤ 1000000) :
    ∃ v' h' fp', appendD (some (es, bytes, z)) (.slice none 0 0) v h = some (v', h') ∧ Sl h' fp' v' es n cs ∧ Mod h [] h' fp' := by
  obtain ⟨a, b⟩ := Sl.src c
  obtain ⟨v', h', fp', a1, a2, a3⟩ := Sl.append (h := h) (v := .slice none 0 0) (n := 0) (cs := []) (fp := []) (Sl.nil) (x := v) (k := n) (bytes := bytes) (z := z) (new := cs) hz he hby a (fun _ => b) c.1 h1 (by omega)
  exact ⟨v', h', fp', a1, by simpa using a2, a3⟩

theorem prs_one (l : List Pr) : (l.flatMap Pr.cells).all oneCell = true := by
  induction l with
  | nil => rfl
  | cons m l ih => rw [List.flatMap_cons, List.all_append, ih]; rfl

theorem ref8_Clone (c : Sp h fp p s) (hsz : s.items.length + s.lost.length + s.pairs.length ≤ 1000000) :
    cl (F.estafetteref8_Space_Clone E) [p] h fun r h' => ∃ fp', Sp h' fp' r s ∧ Mod h [] h' fp' := by
  obtain ⟨b, fP, fI, fL, vP, vI, vL, rfl, rfl, c⟩ := c
  refine cl_of ?_
  have e0 : ldD (.agg 7) (ptr b 0) h = some (.agg #[str s.name, i64 s.kind, vP, i64 s.most, vI, vL, i64 s.next]) := by
    rw [ld_agg, rdN_of c.cell]
    simp
  have e2 : ∀ a b c d e f g : V, newD none (.agg #[a, b, c, d, e, f, g]) h = some (ptr h.next 0, h.new (.cells [a, b, c, d, e, f, g] 7 .rw)) := fun _ _ _ _ _ _ _ => rfl
  simp only [F.estafetteref8_Space_Clone, aNil_ptr, kv_some, e0, e2, kP_some]
  have cP := Sl.cell c.pairs
  have cI := Sl.cell c.items
  have cL := Sl.cell c.lost
  generalize hb1 : h.new (.cells [(.string ⟨#[]⟩), (.int .i64 0), (.slice none 0 0), (.int .i64 0), (.slice none 0 0), (.slice none 0 0), (.int .i64 0)] 7 .rw) = g1
  have gb1 : g1.get h.next = some (.cells [(.string ⟨#[]⟩), (.int .i64 0), (.slice none 0 0), (.int .i64 0), (.slice none 0 0), (.slice none 0 0), (.int .i64 0)] 7 .rw) := by rw [← hb1]; simp
  have hst : stD (some 7) (ptr h.next 0) (.agg #[str s.name, i64 s.kind, vP, i64 s.most, vI, vL, i64 s.next]) g1 = some (g1.put h.next (.cells [str s.name, i64 s.kind, vP, i64 s.most, vI, vL, i64 s.next] 7 .rw)) :=
    st_of (n := 7) (vs := [str s.name, i64 s.kind, vP, i64 s.most, vI, vL, i64 s.next]) (o := 0) gb1 (by simp) rfl rfl (by simp only [List.all_cons, List.all_nil, cP.2, cI.2, cL.2, Bool.and_true, Bool.true_and]; rfl) (by simp)
  rw [hst, kH_some]
  generalize hb2 : g1.put h.next (.cells [str s.name, i64 s.kind, vP, i64 s.most, vI, vL, i64 s.next] 7 .rw) = g2
  have gb2 : g2.get h.next = some (.cells [str s.name, i64 s.kind, vP, i64 s.most, vI, vL, i64 s.next] 7 .rw) := by rw [← hb2]; simp
  have n2 : g2.next = h.next + 1 := by rw [← hb2, ← hb1]; rfl
  have k2 : ∀ x, x < h.next → g2.get x = h.get x := fun x hx => by rw [← hb2, ← hb1]; simp [Nat.ne_of_lt hx]
  have c2 : SpC g2 b fP fI fL vP vI vL s := c.same (by omega) fun x hx => k2 x (c.lt x hx)
  simp only [fieldAddr_ptr, ld_one, Nat.zero_add, rd_of c2.cell, List.getElem?_cons_succ, List.getElem?_cons_zero, kv_some]
  obtain ⟨vP', g3, fP', a1, a2, a3⟩ := Sl.fresh c2.pairs (bytes := 40) (z := [(.string ⟨#[]⟩), (.string ⟨#[]⟩), (.int .i64 0)]) rfl (by decide) (by decide) (prs_one _) (by omega)
  rw [a1, kP_some]
  have c3 : SpC g3 b fP fI fL vP vI vL s := c2.same a3.next fun x hx => a3.same x (c2.lt x hx) (by simp)
  simp only [rd_of c3.cell, List.getElem?_cons_succ, List.getElem?_cons_zero, true_and]
  obtain ⟨vI', g4, fI', b1, b2, b3⟩ := Sl.fresh c3.items (bytes := 40) (z := zMsg) rfl (by decide) (by decide) (msgsC_one _) (by omega)
  rw [b1, kP_some]
  have c4 : SpC g4 b fP fI fL vP vI vL s := c3.same b3.next fun x hx => b3.same x (c3.lt x hx) (by simp)
  simp only [rd_of c4.cell, List.getElem?_cons_succ, List.getElem?_cons_zero, true_and]
  obtain ⟨vL', g5, fL', d1, d2, d3⟩ := Sl.fresh c4.lost (bytes := 40) (z := zMsg) rfl (by decide) (by decide) (msgsC_one _) (by omega)
  rw [d1, kP_some]
  have gb5 : g5.get h.next = some (.cells [str s.name, i64 s.kind, vP, i64 s.most, vI, vL, i64 s.next] 7 .rw) := by
    rw [d3.same h.next (by have := a3.next; have := b3.next; omega) (by simp), b3.same h.next (by have := a3.next; omega) (by simp), a3.same h.next (by omega) (by simp), gb2]
  obtain ⟨q1, q2⟩ := Sl.cell a2
  obtain ⟨q3, q4⟩ := Sl.cell b2
  obtain ⟨q5, q6⟩ := Sl.cell d2
  rw [st_one gb5 (by simp) q1 q2 (by simp)]
  simp only [kH_some, List.set_cons_succ, List.set_cons_zero]
  have gb6 : (g5.put h.next (.cells [str s.name, i64 s.kind, vP', i64 s.most, vI, vL, i64 s.next] 7 .rw)).get h.next = some (.cells [str s.name, i64 s.kind, vP', i64 s.most, vI, vL, i64 s.next] 7 .rw) := by simp
  rw [st_one gb6 (by simp) q3 q4 (by simp)]
  simp only [kH_some, List.set_cons_succ, List.set_cons_zero, put_put]
  have gb7 : (g5.put h.next (.cells [str s.name, i64 s.kind, vP', i64 s.most, vI', vL, i64 s.next] 7 .rw)).get h.next = some (.cells [str s.name, i64 s.kind, vP', i64 s.most, vI', vL, i64 s.next] 7 .rw) := by simp
  rw [st_one gb7 (by simp) q5 q6 (by simp)]
  simp only [kH_some, List.set_cons_succ, List.set_cons_zero, put_put]
  have nx : g2.next ≤ g3.next ∧ g3.next ≤ g4.next ∧ g4.next ≤ g5.next := ⟨a3.next, b3.next, d3.next⟩
  have newP : ∀ x ∈ fP', h.next < x ∧ x < g3.next := fun x hx => ⟨by rcases a3.new x hx with h1 | h1; simp at h1; omega, a3.lt x hx⟩
  have newI : ∀ x ∈ fI', g3.next ≤ x ∧ x < g4.next := fun x hx => ⟨by rcases b3.new x hx with h1 | h1; simp at h1; exact h1, b3.lt x hx⟩
  have newL : ∀ x ∈ fL', g4.next ≤ x ∧ x < g5.next := fun x hx => ⟨by rcases d3.new x hx with h1 | h1; simp at h1; exact h1, d3.lt x hx⟩
  have put : ∀ (o : AObj) x, x ≠ h.next → (g5.put h.next o).get x = g5.get x := fun o x hx => by simp [hx]
  have hc : SpC (g5.put h.next (.cells [str s.name, i64 s.kind, vP', i64 s.most, vI', vL', i64 s.next] 7 .rw)) h.next fP' fI' fL' vP' vI' vL' s := by
    refine ⟨by simp; omega, by simp, Prs.same (h := g3) a2 (by simp; omega) fun x hx => ?_, Ms.same (h := g4) b2 (by simp; omega) fun x hx => ?_, Ms.same (h := g5) d2 (by simp) fun x hx => ?_, fun hx => ?_, fun hx => ?_, fun hx => ?_, fun x hx hx' => ?_, fun x hx hx' => ?_, fun x hx hx' => ?_⟩
    · have := newP x hx
      rw [put _ x (by omega), d3.same x (by omega) (by simp), b3.same x (by omega) (by simp)]
    · have := newI x hx
      rw [put _ x (by omega), d3.same x (by omega) (by simp)]
    · have := newL x hx
      rw [put _ x (by omega)]
    · have := newP _ hx; omega
    · have := newI _ hx; omega
    · have := newL _ hx; omega
    · have := newP x hx; have := newI x hx'; omega
    · have := newP x hx; have := newL x hx'; omega
    · have := newI x hx; have := newL x hx'; omega
  refine ⟨_, ⟨h.next, fP', fI', fL', vP', vI', vL', rfl, rfl, hc⟩, by simp; omega, fun x hx _ => ?_, fun x hx => ?_, hc.lt⟩
  · rw [put _ x (by omega), d3.same x (by omega) (by simp), b3.same x (by omega) (by simp), a3.same x (by omega) (by simp), k2 x hx]
  · simp only [List.mem_cons, List.mem_append] at hx
    right
    rcases hx with rfl | hx | hx | hx
    · exact Nat.le_refl _
    · have := newP x hx; omega
    · have := newI x hx; omega
    · have := newL x hx; omega

end Go.Abs

set_option linter.unusedSimpArgs false
set_option linter.unusedVariables false
namespace Go.Abs
open Go

/-- What stands while messages are looked through: the space, the messages that stay, the result's box, the box of what is handed out. -/
structure RC (h : AHeap) (b : Nat) (fP fI fL : List Nat) (vP vI : V) (s : SpM) (h' : AHeap) (moved left : List Msg) (got : Option Msg) (fL' : List Nat) (vL' : V) (fl : List Nat) (vl : V) : Prop where
  lt0 : ∀ x ∈ b :: (fP ++ (fI ++ fL)), x < h.next
  c : SpC h' b fP fI fL' vP vI vL' { s with lost := s.lost ++ moved }
  m : Mod h (b :: (fP ++ (fI ++ fL))) h' (b :: (fP ++ (fI ++ fL')))
  l : Ms h' fl vl left
  ap : ∀ x ∈ fl, h.next + 2 ≤ x ∧ x ∉ fL'
  n0 : h.next ∉ fL'
  n1 : h.next + 1 ∉ fL'
  nx : h.next + 2 ≤ h'.next
  g0 : h'.get h.next = some (.cells Msg.zero.cells 4 .rw)
  g1 : h'.get (h.next + 1) = some (.cells (got.getD Msg.zero).cells 4 .rw)

variable {E : FE} {h h' h'' : AHeap} {fp : List Nat} {p : V} {s : SpM} {b : Nat} {fP fI fL fL' fl : List Nat} {vP vI vL vL' vl : V} {moved left : List Msg} {got : Option Msg}

theorem RC.same (r : RC h b fP fI fL vP vI s h' moved left got fL' vL' fl vl) (hl : h'.next ≤ h''.next) (hs : ∀ x, x < h.next + 2 ∨ x ∈ fl ∨ x ∈ fL' → h''.get x = h'.get x) : RC h b fP fI fL vP vI s h'' moved left got fL' vL' fl vl := by
  have low : ∀ x ∈ b :: (fP ++ (fI ++ fL')), h''.get x = h'.get x := by
    intro x hx
    apply hs
    simp only [List.mem_cons, List.mem_append] at hx
    rcases hx with rfl | hx | hx | hx
    · have := r.lt0 x (by simp); omega
    · have := r.lt0 x (by simp [hx]); omega
    · have := r.lt0 x (by simp [hx]); omega
    · exact .inr (.inr hx)
  exact ⟨r.lt0, r.c.same hl low, ⟨by have := r.m.next; omega, fun x hx hn => by rw [hs x (by omega), r.m.same x hx hn], r.m.new, fun x hx => by have := r.m.lt x hx; omega⟩,
    r.l.same hl fun x hx => hs x (.inr (.inl hx)), r.ap, r.n0, r.n1, by have := r.nx; omega, by rw [hs _ (by omega), r.g0], by rw [hs _ (by omega), r.g1]⟩

theorem RC.new (r : RC h b fP fI fL vP vI s h' moved left got fL' vL' fl vl) (o : AObj) : RC h b fP fI fL vP vI s (h'.new o) moved left got fL' vL' fl vl :=
  r.same (by simp) fun x hx => by
    have : x ≠ h'.next := by
      rcases hx with hx | hx | hx
      · have := r.nx; omega
      · have := r.l.lt x hx; omega
      · have := r.c.lost.lt x hx; omega
    simp [this]

theorem RC.put (r : RC h b fP fI fL vP vI s h' moved left got fL' vL' fl vl) (o : AObj) {y : Nat} (hy : h.next + 2 ≤ y ∧ y ∉ fl ∧ y ∉ fL') : RC h b fP fI fL vP vI s (h'.put y o) moved left got fL' vL' fl vl :=
  r.same (by simp) fun x hx => by
    have : x ≠ y := by
      rintro rfl
      rcases hx with hx | hx | hx
      · omega
      · exact hy.2.1 hx
      · exact hy.2.2 hx
    simp [this]

theorem RC.take (r : RC h b fP fI fL vP vI s h' moved left got fL' vL' fl vl) (m : Msg) : RC h b fP fI fL vP vI s (h'.put (h.next + 1) (.cells m.cells 4 .rw)) moved left (some m) fL' vL' fl vl := by
  have ne : ∀ x, x ≠ h.next + 1 → (h'.put (h.next + 1) (.cells m.cells 4 .rw)).get x = h'.get x := fun x hx => by simp [hx]
  have low : ∀ x ∈ b :: (fP ++ (fI ++ fL')), x ≠ h.next + 1 := by
    intro x hx
    simp only [List.mem_cons, List.mem_append] at hx
    rcases hx with rfl | hx | hx | hx
    · have := r.lt0 x (by simp); omega
    · have := r.lt0 x (by simp [hx]); omega
    · have := r.lt0 x (by simp [hx]); omega
    · rintro rfl; exact r.n1 hx
  exact ⟨r.lt0, r.c.same (by simp) fun x hx => ne x (low x hx), r.m.putNew (by omega), r.l.same (by simp) fun x hx => ne x (by have := (r.ap x hx).1; omega), r.ap, r.n0, r.n1, by have := r.nx; simpa using this, by rw [ne _ (by omega), r.g0], by simp⟩

/-- One more is lost. -/
theorem RC.lose (r : RC h b fP fI fL vP vI s h' moved left got fL' vL' fl vl) (m : Msg) (hsz : s.lost.length + moved.length ≤ 1000000) {x : V} (hx : aLenOf x = some 1) (hs : aSrc 4 x h' = some m.cells) :
    ∃ v' h1 fL2, appendD (some (4, 40, [(.int .i64 0), (.string ⟨#[]⟩), (.int .i64 0), (.int .i64 0)])) vL' x h' = some (v', h1) ∧
      stD (some 1) (ptr b 5) v' h1 = some (h1.put b (.cells [str s.name, i64 s.kind, vP, i64 s.most, vI, v', i64 s.next] 7 .rw)) ∧
      RC h b fP fI fL vP vI s (h1.put b (.cells [str s.name, i64 s.kind, vP, i64 s.most, vI, v', i64 s.next] 7 .rw)) (moved ++ [m]) left got fL2 v' fl vl := by
  obtain ⟨v', h1, fL2, a1, a2, a3⟩ := Sl.append r.c.lost (x := x) (k := 1) (bytes := 40) (z := zMsg) (new := m.cells) rfl (by decide) (by decide) hx (fun _ => hs) rfl rfl (by simp; omega)
  have hb : h1.get b = some (.cells [str s.name, i64 s.kind, vP, i64 s.most, vI, vL', i64 s.next] 7 .rw) := by rw [a3.same b r.c.b_lt r.c.bL]; exact r.c.cell
  obtain ⟨q1, q2⟩ := Sl.cell a2
  have a2' : Ms h1 fL2 v' (s.lost ++ (moved ++ [m])) := by
    have : Ms h1 fL2 v' ((s.lost ++ moved) ++ [m]) := by simpa [Ms, Nat.add_assoc] using a2
    simpa using this
  refine ⟨v', h1, fL2, a1, st_one hb (by simp) q1 q2 (by simp), ?_⟩
  obtain ⟨c2, m2⟩ := r.c.setLost a3 a2'
  generalize hg : h1.put b (.cells [str s.name, i64 s.kind, vP, i64 s.most, vI, v', i64 s.next] 7 .rw) = h2
  have k : ∀ x, x < h'.next → x ∉ fL' → x ≠ b → h2.get x = h'.get x := fun x hx hn hb => by
    rw [← hg]
    simp only [put_get, hb, if_false]
    exact a3.same x hx hn
  have hn2 : h2.next = h1.next := by rw [← hg]; rfl
  have hb0 := r.lt0 b (by simp)
  have nL : ∀ x, x < h'.next → x ∉ fL' → x ∉ fL2 := fun x hx hn hf => by
    rcases a3.new x hf with hf | hf
    · exact hn hf
    · omega
  have nx := r.nx
  refine ⟨r.lt0, by rw [← hg]; exact c2, by rw [← hg]; exact r.m.trans m2, r.l.same (by rw [hn2]; exact a3.next) fun x hx => ?_, fun x hx => ⟨(r.ap x hx).1, nL x (r.l.lt x hx) (r.ap x hx).2⟩, nL _ (by omega) r.n0, nL _ (by omega) r.n1, by have := a3.next; omega, ?_, ?_⟩
  · have := r.ap x hx
    exact k x (r.l.lt x hx) this.2 (by omega)
  · rw [k _ (by omega) r.n0 (by omega), r.g0]
  · rw [k _ (by omega) r.n1 (by omega), r.g1]

/-- One more stays. -/
theorem RC.stay (r : RC h b fP fI fL vP vI s h' moved left got fL' vL' fl vl) (m : Msg) (hsz : left.length ≤ 1000000) {x : V} (hx : aLenOf x = some 1) (hs : aSrc 4 x h' = some m.cells) :
    ∃ v' h1 fl2, appendD (some (4, 40, [(.int .i64 0), (.string ⟨#[]⟩), (.int .i64 0), (.int .i64 0)])) vl x h' = some (v', h1) ∧ RC h b fP fI fL vP vI s h1 moved (left ++ [m]) got fL' vL' fl2 v' := by
  obtain ⟨v', h1, fl2, a1, a2, a3⟩ := Sl.append r.l (x := x) (k := 1) (bytes := 40) (z := zMsg) (new := m.cells) rfl (by decide) (by decide) hx (fun _ => hs) rfl rfl (by omega)
  have a2' : Ms h1 fl2 v' (left ++ [m]) := by simpa [Ms] using a2
  have nx := r.nx
  have lo : ∀ x ∈ b :: (fP ++ (fI ++ fL')), x < h'.next ∧ x ∉ fl := by
    intro x hx
    refine ⟨r.c.lt x hx, fun hf => ?_⟩
    have := r.ap x hf
    simp only [List.mem_cons, List.mem_append] at hx
    rcases hx with rfl | hx | hx | hx
    · have := r.lt0 x (by simp); omega
    · have := r.lt0 x (by simp [hx]); omega
    · have := r.lt0 x (by simp [hx]); omega
    · exact this.2 hx
  refine ⟨v', h1, fl2, a1, r.lt0, r.c.same a3.next fun x hx => a3.same x (lo x hx).1 (lo x hx).2, ⟨by have := r.m.next; have := a3.next; omega, fun x hx hn => ?_, r.m.new, fun x hx => by have := r.m.lt x hx; have := a3.next; omega⟩, a2', fun x hx => ?_, r.n0, r.n1, by have := a3.next; omega, ?_, ?_⟩
  · rw [a3.same x (by omega) fun hf => by have := r.ap x hf; omega]; exact r.m.same x hx hn
  · rcases a3.new x hx with h1 | h1
    · exact r.ap x h1
    · exact ⟨by omega, fun hf => by have := r.c.lost.lt x hf; omega⟩
  · rw [a3.same _ (by omega) fun hf => by have := r.ap _ hf; omega]; exact r.g0
  · rw [a3.same _ (by omega) fun hf => by have := r.ap _ hf; omega]; exact r.g1

end Go.Abs

set_option linter.unusedSimpArgs false
set_option linter.unusedVariables false
namespace Go.Abs
open Go

/-- What Recv does to the messages that are left, if one was handed out, or none. -/
def recvX (most now ticks : Int) (got : Option Msg) (l : List Msg) : List Msg × List Msg × Option Msg :=
  match got with
  | none => recvL most now ticks l
  | some g => (l, [], some g)

variable {E : FE} {h : AHeap} {fp : List Nat} {p : V} {s : SpM}

theorem ref8_Recv (c : Sp h fp p s) (now ticks : Int) (hsz : s.items.length + s.lost.length ≤ 1000000) (hcnt : ∀ m ∈ s.items, 0 ≤ m.count ∧ m.count ≤ 1000000) (hid : ∀ m ∈ s.items, 1 ≤ m.id) :
    cl (F.estafetteref8_Space_Recv E) [p, i64 now, i64 ticks] h fun r h' =>
      if ticks < 1 ∨ ticks > 1000 ∨ now < 0 ∨ now > 1099511627776 then r = .tuple #[Msg.zero.agg, .bool false] ∧ Sp h' fp p s ∧ Mod h fp h' fp
      else r = .tuple #[((recvL s.most now ticks s.items).2.2.getD Msg.zero).agg, .bool (recvL s.most now ticks s.items).2.2.isSome] ∧
        ∃ fp', Sp h' fp' p { s with items := (recvL s.most now ticks s.items).1, lost := s.lost ++ (recvL s.most now ticks s.items).2.1 } ∧ Mod h fp h' fp' := by
  obtain ⟨b, fP, fI, fL, vP, vI, vL, rfl, rfl, c⟩ := c
  refine cl_of ?_
  have ez : buildD (.struct [(.int .i64 0), (.string ⟨#[]⟩), (.int .i64 0), (.int .i64 0)] [(0, 1), (1, 1), (2, 1), (3, 1)]) [] = some Msg.zero.agg := rfl
  simp only [F.estafetteref8_Space_Recv, new4, kP_some, bin_lss, kv_some]
  generalize hb1 : h.new (.cells [.int .i64 0, .string ⟨#[]⟩, .int .i64 0, .int .i64 0] 4 .rw) = g1
  have n1 : g1.next = h.next + 1 := by rw [← hb1]; rfl
  have gb1 : g1.get h.next = some (.cells [.int .i64 0, .string ⟨#[]⟩, .int .i64 0, .int .i64 0] 4 .rw) := by rw [← hb1]; simp
  have m1 : Mod h (b :: (fP ++ (fI ++ fL))) g1 (b :: (fP ++ (fI ++ fL))) := by rw [← hb1]; exact Mod.newBox c.lt
  have c1 : SpC g1 b fP fI fL vP vI vL s := c.same (by omega) fun y hy => by
    have := c.lt y hy
    rw [← hb1]
    simp [Nat.ne_of_lt this]
  by_cases hbad : ticks < 1 ∨ ticks > 1000 ∨ now < 0 ∨ now > 1099511627776
  · simp only [if_pos hbad]
    have gz : (g1.put h.next (.cells Msg.zero.cells 4 .rw)).get h.next = some (.cells Msg.zero.cells 4 .rw) := by simp
    have go : ∀ X : Prop, ifV (.bool true) (kv (buildD (.struct [(.int .i64 0), (.string ⟨#[]⟩), (.int .i64 0), (.int .i64 0)] [(0, 1), (1, 1), (2, 1), (3, 1)]) []) fun v28_14 =>
        kH (stD (some 4) (ptr h.next 0) v28_14 g1) fun _ h_1 => kv (ldD (.agg 4) (ptr h.next 0) h_1) fun r15 =>
          Value.tuple #[r15, .bool false] = Value.tuple #[Msg.zero.agg, .bool false] ∧ Sp h_1 (b :: (fP ++ (fI ++ fL))) (ptr b 0) s ∧ Mod h (b :: (fP ++ (fI ++ fL))) h_1 (b :: (fP ++ (fI ++ fL)))) X := by
      intro X
      simp only [ifV_bool, if_true, ez, kv_some]
      rw [st4 gb1, kH_some, ld4 gz, kv_some]
      refine ⟨rfl, ⟨b, fP, fI, fL, vP, vI, vL, rfl, rfl, c1.same (by simp) fun y hy => ?_⟩, m1.putNew (Nat.le_refl _)⟩
      have := c.lt y hy
      simp [Nat.ne_of_lt this]
    by_cases t1 : ticks < 1
    · simp only [t1, decide_true, kv_some, gdV_bool, Bool.true_eq_false, if_false, pickV_bool, if_true]
      exact go _
    · by_cases t2 : ticks > 1000
      · simp only [t1, t2, decide_true, decide_false, kv_some, gdV_bool, Bool.true_eq_false, if_false, pickV_bool, if_true, bin_gtr, Bool.false_eq_true]
        exact go _
      · by_cases t3 : now < 0
        · simp only [t1, t2, t3, decide_true, decide_false, kv_some, gdV_bool, Bool.true_eq_false, if_false, pickV_bool, if_true, bin_gtr, bin_lss, Bool.false_eq_true]
          exact go _
        · have t4 : now > 1099511627776 := by omega
          simp only [t1, t2, t3, t4, decide_true, decide_false, kv_some, gdV_bool, Bool.true_eq_false, if_false, pickV_bool, if_true, bin_gtr, bin_lss, Bool.false_eq_true]
          exact go _
  · simp only [if_neg hbad]
    have t1 : ¬ ticks < 1 := by omega
    have t2 : ¬ ticks > 1000 := by omega
    have t3 : ¬ now < 0 := by omega
    have t4 : ¬ now > 1099511627776 := by omega
    simp only [t1, t2, t3, t4, decide_true, decide_false, kv_some, gdV_bool, Bool.true_eq_false, if_false, pickV_bool, if_true, bin_gtr, bin_lss, Bool.false_eq_true, ifV_bool, n1]
    have r0 : RC h b fP fI fL vP vI s (g1.new (.cells [.int .i64 0, .string ⟨#[]⟩, .int .i64 0, .int .i64 0] 4 .rw)) [] [] none fL vL [] (.slice none 0 0) := by
      have low : ∀ y, y < h.next + 1 → (g1.new (.cells [.int .i64 0, .string ⟨#[]⟩, .int .i64 0, .int .i64 0] 4 .rw)).get y = g1.get y := fun y hy => by
        have : y ≠ g1.next := by omega
        simp [this]
      refine ⟨c.lt, ?_, m1.trans (Mod.newBox c1.lt), Sl.nil, by simp, fun hx => ?_, fun hx => ?_, by simp; omega, ?_, ?_⟩
      · have : ({ s with lost := s.lost ++ ([] : List Msg) } : SpM) = s := by simp
        rw [this]
        exact c1.same (by simp) fun y hy => low y (by have := c.lt y hy; omega)
      · have := c.lost.lt _ hx; omega
      · have := c.lost.lt _ hx; omega
      · rw [low _ (by omega)]; exact gb1
      · rw [← n1]; simp; rfl
    refine ⟨fun k vs h' => ∃ (pre rest left moved : List Msg) (got : Option Msg) (fL' : List Nat) (vL' : V) (fl : List Nat) (vl : V), vs = [vl, i64 pre.length] ∧ k = rest.length ∧ s.items = pre ++ rest ∧
      RC h b fP fI fL vP vI s h' moved left got fL' vL' fl vl ∧ left.length + moved.length = pre.length ∧ (∀ m, got = some m → 1 ≤ m.id) ∧
      recvL s.most now ticks s.items = (left ++ (recvX s.most now ticks got rest).1, moved ++ (recvX s.most now ticks got rest).2.1, (recvX s.most now ticks got rest).2.2), s.items.length,
      ⟨[], s.items, [], [], none, fL, vL, [], _, rfl, rfl, rfl, r0, rfl, by simp, by simp [recvX]⟩, ?_⟩
    rintro k e h1 ⟨pre, rest, left, moved, got, fL', vL', fl, vl, he, rfl, hit, r, hsum, hgot, hrec⟩
    simp only [List.cons.injEq, and_true] at he
    obtain ⟨he1, he2⟩ := he
    have hlenI := Sl.len r.c.items
    have hlen : s.items.length = pre.length + rest.length := by rw [hit]; simp
    simp only [he1, he2, aNil_ptr, kv_some, fieldAddr_ptr, ld_one, Nat.zero_add, rd_of r.c.cell, List.getElem?_cons_succ, List.getElem?_cons_zero, hlenI, bin_lss, ifV_bool]
    cases rest with
    | nil =>
      have hx : ¬ ((pre.length : Int) < (s.items.length : Nat)) := by rw [hlen]; simp
      simp only [hx, decide_false, Bool.false_eq_true, if_false]
      obtain ⟨q1, q2⟩ := Sl.cell r.l
      rw [st_one r.c.cell (by simp) q1 q2 (by simp)]
      simp only [kH_some, List.set_cons_succ, List.set_cons_zero]
      have hb0 := r.lt0 b (by simp)
      generalize hg : h1.put b (.cells [str s.name, i64 s.kind, vP, i64 s.most, vl, vL', i64 s.next] 7 .rw) = h2
      have k2 : ∀ x, x ≠ b → h2.get x = h1.get x := fun x hx => by rw [← hg]; simp [hx]
      have n2 : h2.next = h1.next := by rw [← hg]; rfl
      have x1 : h2.get (h.next + 1) = some (.cells (got.getD Msg.zero).cells 4 .rw) := by rw [k2 _ (by omega)]; exact r.g1
      have x0 : h2.get h.next = some (.cells Msg.zero.cells 4 .rw) := by rw [k2 _ (by omega)]; exact r.g0
      simp only [ld4 x1, kv_some, rd_of x1, Msg.cells, List.getElem?_cons_zero, bin_gtr]
      rw [st4 x0, kH_some]
      generalize hg3 : h2.put h.next (.cells (got.getD Msg.zero).cells 4 .rw) = h3
      have k3 : ∀ x, x ≠ h.next → h3.get x = h2.get x := fun x hx => by rw [← hg3]; simp [hx]
      have n3 : h3.next = h1.next := by rw [← hg3, ← n2]; rfl
      have y1 : h3.get (h.next + 1) = some (.cells (got.getD Msg.zero).cells 4 .rw) := by rw [k3 _ (by omega)]; exact x1
      have y0 : h3.get h.next = some (.cells (got.getD Msg.zero).cells 4 .rw) := by rw [← hg3]; simp
      simp only [rd_of y1, Msg.cells, List.getElem?_cons_zero, true_and, ld4 y0, kv_some]
      have hend : recvL s.most now ticks s.items = (left, moved, got) := by
        rw [hrec]
        cases got <;> simp [recvX, recvL]
      rw [hend]
      have hid0 : (decide ((got.getD Msg.zero).id > 0)) = got.isSome := by
        cases got with
        | none => rfl
        | some m => simp; exact hgot m rfl
      rw [hid0]
      refine ⟨rfl, b :: (fP ++ (fl ++ fL')), ⟨b, fP, fl, fL', vP, vl, vL', rfl, rfl, ?_⟩, ?_⟩
      · have ne : ∀ x, x ∈ fl ∨ x ∈ fP ∨ x ∈ fL' → x ≠ h.next ∧ x ≠ b := by
          rintro x (hx | hx | hx)
          · have := r.ap x hx; omega
          · have h1 := r.lt0 x (by simp [hx]); exact ⟨by omega, fun e => r.c.bP (e ▸ hx)⟩
          · exact ⟨fun e => r.n0 (e ▸ hx), fun e => r.c.bL (e ▸ hx)⟩
        have kk : ∀ x, x ∈ fl ∨ x ∈ fP ∨ x ∈ fL' → h3.get x = h1.get x := fun x hx => by rw [k3 x (ne x hx).1, k2 x (ne x hx).2]
        refine ⟨by have := r.c.b_lt; omega, ?_, r.c.pairs.same (by omega) fun x hx => kk x (by simp [hx]), r.l.same (by omega) fun x hx => kk x (by simp [hx]), r.c.lost.same (by omega) fun x hx => kk x (by simp [hx]), r.c.bP, fun hx => ?_, r.c.bL, fun x hx hx' => ?_, r.c.PL, fun x hx => (r.ap x hx).2⟩
        · rw [k3 b (by omega), ← hg]; simp
        · have := r.ap _ hx; omega
        · have := r.ap x hx'; have := r.lt0 x (by simp [hx]); omega
      · have nx := r.nx
        refine ⟨by have := r.m.next; omega, fun x hx hn => ?_, fun x hx => ?_, fun x hx => ?_⟩
        · rw [k3 x (by omega), k2 x (by rintro rfl; simp at hn), r.m.same x hx hn]
        · simp only [List.mem_cons, List.mem_append] at hx
          rcases hx with rfl | hx | hx | hx
          · simp
          · simp [hx]
          · have := r.ap x hx; omega
          · rcases r.m.new x (by simp [hx]) with h1 | h1
            · exact .inl h1
            · exact .inr h1
        · rw [n3]
          simp only [List.mem_cons, List.mem_append] at hx
          rcases hx with rfl | hx | hx | hx
          · omega
          · have := r.lt0 x (by simp [hx]); omega
          · have := r.l.lt x hx; omega
          · have := r.c.lost.lt x hx; omega
    | cons m rest =>
      have hx : ((pre.length : Int) < (s.items.length : Nat)) := by rw [hlen]; simp; omega
      have hget : s.items[pre.length]? = some m := by rw [hit]; simp
      have hmem : m ∈ s.items := by rw [hit]; simp
      obtain ⟨br, i1, _, i3, _⟩ := Ms.at r.c.items hget
      simp only [hx, decide_true, if_true, i1, kv_some, i3]
      have r2 := r.new (.cells [.int .i64 0, .string ⟨#[]⟩, .int .i64 0, .int .i64 0] 4 .rw)
      generalize hg2 : h1.new (.cells [.int .i64 0, .string ⟨#[]⟩, .int .i64 0, .int .i64 0] 4 .rw) = h2 at r2
      have gb2 : h2.get h1.next = some (.cells [.int .i64 0, .string ⟨#[]⟩, .int .i64 0, .int .i64 0] 4 .rw) := by rw [← hg2]; simp
      have nx := r.nx
      have nb : h.next + 2 ≤ h1.next ∧ h1.next ∉ fl ∧ h1.next ∉ fL' := ⟨nx, fun hx => by have := r.l.lt _ hx; omega, fun hx => by have := r.c.lost.lt _ hx; omega⟩
      rw [st4 gb2, kH_some]
      have r3 := r2.put (.cells m.cells 4 .rw) nb
      have gb3 : (h2.put h1.next (.cells m.cells 4 .rw)).get h1.next = some (.cells m.cells 4 .rw) := by simp
      generalize h2.put h1.next (.cells m.cells 4 .rw) = h3 at r3 gb3
      have hrd : ∀ (m : Msg) (g : AHeap) (x : Nat), g.get x = some (.cells m.cells 4 .rw) → g.rd x 0 = some (i64 m.id) ∧ g.rd x 2 = some (i64 m.count) ∧ g.rd x 3 = some (i64 m.till) := fun m g x hx => ⟨rd_of hx 0, rd_of hx 2, rd_of hx 3⟩
      obtain ⟨a1, a2, a3⟩ := hrd _ _ _ gb3
      obtain ⟨f1, _, _⟩ := hrd _ _ _ r3.g1
      have w : IntKind.i64.wrap ((pre.length : Int) + 1) = ((pre.length + 1 : Nat) : Int) := by rw [wrap_i64 (by omega) (by omega)]; omega
      have pre1 : ((pre ++ [m]).length : Int) = ((pre.length + 1 : Nat) : Int) := by simp
      simp only [f1, kv_some, bin_eql]
      -- behind: what stays is appended
      let KK : List V → AHeap → Prop := fun vs h4 => ∃ (got' : Option Msg) (m' : Msg), vs = [] ∧ RC h b fP fI fL vP vI s h4 moved left got' fL' vL' fl vl ∧ h4.get h1.next = some (.cells m'.cells 4 .rw) ∧ (∀ m, got' = some m → 1 ≤ m.id) ∧
          recvL s.most now ticks s.items = (left ++ [m'] ++ (recvX s.most now ticks got' rest).1, moved ++ (recvX s.most now ticks got' rest).2.1, (recvX s.most now ticks got' rest).2.2)
      have chain : ∀ (z0 : Bool) (X : V → Prop), X (.bool (z0 && decide (m.till ≤ now))) →
          (kv (gdV (.bool z0) true (fieldAddrD (some 3) (ptr h1.next 0))) fun v48 => kv (gdV (.bool z0) true (ldD .one v48 h3)) fun v49 => kv (gdV (.bool z0) true (binD .bad .eql true v49 (.int .i64 0) h3)) fun v50 =>
            kv (gdV (.bool z0) true (some v50)) fun v51 => kv (gdV v51 false (fieldAddrD (some 3) (ptr h1.next 0))) fun v52 => kv (gdV v51 false (ldD .one v52 h3)) fun v53 => kv (gdV v51 false (some (i64 now))) fun v54 =>
            kv (gdV v51 false (binD .bad .leq false v53 v54 h3)) fun v55 => kv (gdV (.bool z0) true (pickV v51 (.bool true) v55)) fun v56 => kv (pickV (.bool z0) v56 (.bool false)) X) := by
        intro z0 X hX
        cases z0
        · simp only [gdV_bool, Bool.false_eq_true, if_false, kv_some, gdV_gone, pickV_bool]
          exact hX
        · simp only [gdV_bool, if_true, kv_some, fieldAddr_ptr, Nat.zero_add, ld_one, a3, bin_eql]
          cases hz : (m.till == 0)
          · simp only [gdV_bool, if_true, kv_some, fieldAddr_ptr, Nat.zero_add, ld_one, a3, bin_leq, pickV_bool, Bool.false_eq_true, if_false]
            exact hX
          · have hx2 : m.till ≤ now := by have : m.till = 0 := by simpa using hz
                                          omega
            simp only [hx2, decide_true, Bool.and_self] at hX
            simp only [gdV_bool, Bool.true_eq_false, if_false, kv_some, gdV_gone, pickV_bool, if_true]
            exact hX
      refine chain _ _ ?_
      refine ⟨KK, ?_, ?_⟩
      rotate_left
      · rintro e4 h4 ⟨got', m', -, r4, gb4, hg4, hrec4⟩
        have e2 : buildSliceD (some (4, [(.int .i64 0), (.string ⟨#[]⟩), (.int .i64 0), (.int .i64 0)])) 1 [(0, m'.agg)] h4 = some (.slice (some ⟨h4.next, 0, none⟩) 1 2, h4.new (.cells m'.cells 4 .rw)) := rfl
        simp only [ld4 gb4, kv_some, e2, kP_some]
        obtain ⟨v', h5, fl2, b1, r5⟩ := (r4.new (.cells m'.cells 4 .rw)).stay m' (by omega) (x := .slice (some ⟨h4.next, 0, none⟩) 1 2) rfl (by simp [aSrc, sliceCells, AHeap.rdN, Msg.cells])
        rw [b1, kP_some]
        simp only [bin_add, w, kv_some]
        exact ⟨rest.length, by simp, pre ++ [m], rest, left ++ [m'], moved, got', fL', vL', fl2, v', by rw [pre1], rfl, by rw [hit]; simp, r5, by simp; omega, hg4, hrec4⟩
      · have hz0 : ((got.getD Msg.zero).id == 0) = got.isNone := by
          cases got with
          | none => rfl
          | some g => have := hgot g rfl; simp; omega
        rw [hz0]
        have hmost := rd_of r3.c.cell 3
        simp only [List.getElem?_cons_succ, List.getElem?_cons_zero] at hmost
        have hvL := rd_of r3.c.cell 5
        simp only [List.getElem?_cons_succ, List.getElem?_cons_zero] at hvL
        cases hf : (got.isNone && decide (m.till ≤ now))
        · simp only [gdV_bool, Bool.false_eq_true, if_false, kv_some, gdV_gone, pickV_bool, ifV_bool]
          refine ⟨got, m, rfl, r3, gb3, hgot, ?_⟩
          rw [hrec]
          cases got with
          | some g => simp [recvX]
          | none =>
            have ht : m.till > now := by simpa using hf
            simp [recvX, recvL, ht]
        · obtain rfl : got = none := by cases got with
            | none => rfl
            | some g => simp at hf
          have ht : ¬ m.till > now := by simpa using hf
          simp only [gdV_bool, if_true, fieldAddr_ptr, Nat.zero_add, kv_some, ld_one, a2, aNil_ptr, hmost, bin_geq, pickV_bool, ifV_bool, hvL]
          by_cases hm : m.count ≥ s.most
          · have e2 : buildSliceD (some (4, [(.int .i64 0), (.string ⟨#[]⟩), (.int .i64 0), (.int .i64 0)])) 1 [(0, m.agg)] h3 = some (.slice (some ⟨h3.next, 0, none⟩) 1 2, h3.new (.cells m.cells 4 .rw)) := rfl
            have r4 := r3.new (.cells m.cells 4 .rw)
            have hvL4 := rd_of r4.c.cell 5
            simp only [List.getElem?_cons_succ, List.getElem?_cons_zero] at hvL4
            have e4 : aSrc 4 (.slice (some ⟨h3.next, 0, none⟩) 1 2) (h3.new (.cells m.cells 4 .rw)) = some m.cells := by simp [aSrc, sliceCells, AHeap.rdN, Msg.cells]
            simp only [hm, decide_true, if_true, ld4 gb3, kv_some, e2, kP_some, hvL4, true_and]
            obtain ⟨v', h5, fL2, b1, b2, r5⟩ := r4.lose m (by omega) (x := .slice (some ⟨h3.next, 0, none⟩) 1 2) rfl e4
            rw [b1, kP_some, b2, kH_some]
            simp only [bin_add, w, kv_some]
            refine ⟨rest.length, by simp, pre ++ [m], rest, left, moved ++ [m], none, fL2, v', fl, vl, by rw [pre1], rfl, by rw [hit]; simp, r5, by simp; omega, by simp, ?_⟩
            rw [hrec]
            simp [recvX, recvL, ht, hm]
          · have hmc := hcnt m hmem
            simp only [hm, decide_false, Bool.false_eq_true, if_false]
            rw [add_i64 m.count 1 (by omega) (by omega), kv_some, add_i64 now ticks (by omega) (by omega), kv_some]
            rw [st_one gb3 (by simp [Msg.cells]) rfl rfl (by simp), kH_some]
            have gb4 : (h3.put h1.next (.cells (m.cells.set 2 (i64 (m.count + 1))) 4 .rw)).get h1.next = some (.cells [i64 m.id, str m.val, i64 (m.count + 1), i64 m.till] 4 .rw) := by simp [Msg.cells]
            rw [st_one gb4 (by simp) rfl rfl (by simp), kH_some]
            simp only [put_put, List.set_cons_succ, List.set_cons_zero]
            have r4 := r3.put (.cells ({ m with count := m.count + 1, till := now + ticks } : Msg).cells 4 .rw) nb
            have gb5 : (h3.put h1.next (.cells ({ m with count := m.count + 1, till := now + ticks } : Msg).cells 4 .rw)).get h1.next = some (.cells ({ m with count := m.count + 1, till := now + ticks } : Msg).cells 4 .rw) := by simp
            have r5 := r4.take { m with count := m.count + 1, till := now + ticks }
            have e5 := ld4 gb5
            simp only [Msg.cells] at e5 gb5 r4 r5
            rw [e5, kv_some]
            have e6 := st4 (m := { m with count := m.count + 1, till := now + ticks }) r4.g1
            simp only [Msg.cells] at e6
            rw [e6, kH_some]
            refine ⟨some { m with count := m.count + 1, till := now + ticks }, { m with count := m.count + 1, till := now + ticks }, rfl, r5, ?_, fun x hx => by cases hx; exact hid m hmem, ?_⟩
            · have : h1.next ≠ h.next + 1 := by omega
              simp only [put_get, this, if_false, if_true]
              rfl
            · rw [hrec]
              simp [recvX, recvL, ht, hm]

end Go.Abs

set_option linter.unusedSimpArgs false
set_option linter.unusedVariables false
namespace Go.Abs
open Go
variable {E : FE} {h h' : AHeap} {fp : List Nat} {p : V} {s : SpM}

theorem Sl.slice_same {v : V} {es n : Nat} {cs : List V} (c : Sl h fp v es n cs) (hs : ∀ x ∈ fp, h'.get x = h.get x) (lo hi mx : Option V) : sliceD (.slice es) v lo hi mx h' = sliceD (.slice es) v lo hi mx h := by
  obtain ⟨h0, ⟨rfl, rfl, rfl⟩ | ⟨b, c, all, rfl, rfl, hb, h1, h2, h3, h4⟩⟩ := c
  · rfl
  · have := hs b (by simp)
    simp only [sliceD, this]

theorem mod_nil {h h' h'' : AHeap} {a b : List Nat} (m : Mod h [] h' a) (m' : Mod h' a h'' b) : Mod h [] h'' b := m.trans m'

/-- A list without its i-th row, laid anew. -/
theorem Sl.without {v : V} {es n bytes : Nat} {cs z : List V} (c : Sl h fp v es n cs) (hz : z.length = es) (he : 0 < es) (hby : bytes ≤ 64) (h1 : cs.all oneCell = true) (hsz : n ≤ 1000000) {i : Nat} (hi : i < n) {t : IntKind} :
    ∃ v1 v2 v3 h3 v4 h4 fp4, sliceD (.slice es) v none (some (.int t i)) none h = some v1 ∧ sliceD (.slice es) v (some (.int t ((i + 1 : Nat) : Int))) none none h = some v2 ∧
      appendD (some (es, bytes, z)) (.slice none 0 0) v1 h = some (v3, h3) ∧ appendD (some (es, bytes, z)) v3 v2 h3 = some (v4, h4) ∧
      Mod h [] h3 [] ∧ Sl h4 fp4 v4 es (n - 1) (cs.take (i * es) ++ cs.drop ((i + 1) * es)) ∧ Mod h [] h4 fp4 := by
  obtain ⟨v1, a1, a2⟩ := c.pre (k := i) (t := t) (by omega)
  have hall : ∀ (l l' : List V), (∀ x ∈ l, x ∈ l') → l'.all oneCell = true → l.all oneCell = true := fun l l' hs hl => by
    rw [List.all_eq_true] at hl ⊢
    exact fun x hx => hl x (hs x hx)
  obtain ⟨v3, h3, fp3, b1, b2, b3⟩ := a2.fresh (bytes := bytes) (z := z) hz he hby (hall _ _ (fun x hx => List.mem_of_mem_take hx) h1) (by omega)
  have c3 : Sl h3 fp v es n cs := c.same b3.next fun x hx => b3.same x (c.lt x hx) (by simp)
  obtain ⟨v2, d1, d2, d3⟩ := c3.post (k := i + 1) (t := t) (by omega)
  obtain ⟨v4, h4, fp4, e1, e2, e3⟩ := Sl.append b2 (x := v2) (k := n - (i + 1)) (bytes := bytes) (z := z) (new := cs.drop ((i + 1) * es)) hz he hby d2 d3 (by rw [List.length_drop, c.1]; rw [Nat.sub_mul]) (hall _ _ (fun x hx => List.mem_of_mem_drop hx) h1) (by omega)
  refine ⟨v1, v2, v3, h3, v4, h4, fp4, a1, (c.slice_same (fun x hx => b3.same x (c.lt x hx) (by simp)) _ _ _).symm.trans d1, b1, e1, ⟨b3.next, b3.same, by simp, by simp⟩, ?_, b3.trans e3⟩
  have : i + (n - (i + 1)) = n - 1 := by omega
  rw [this] at e2
  exact e2

/-- A list with one more row at i, laid anew. -/
theorem Sl.within {v : V} {es n bytes : Nat} {cs z row : List V} (c : Sl h fp v es n cs) (hz : z.length = es) (he : 0 < es) (hby : bytes ≤ 64) (h1 : cs.all oneCell = true) (hr : row.length = es) (hr1 : row.all oneCell = true) (hsz : n ≤ 1000000) {i : Nat} (hi : i ≤ n) {t : IntKind} :
    ∃ v1 v2 v3 h3, sliceD (.slice es) v none (some (.int t i)) none h = some v1 ∧ sliceD (.slice es) v (some (.int t i)) none none h = some v2 ∧
      appendD (some (es, bytes, z)) (.slice none 0 0) v1 h = some (v3, h3) ∧ Mod h [] h3 [] ∧
      ∃ v4 h4, appendD (some (es, bytes, z)) v3 (.slice (some ⟨h3.next, 0, none⟩) 1 2) (h3.new (.cells row es .rw)) = some (v4, h4) ∧ Mod h [] h4 [] ∧
      ∃ v5 h5 fp5, appendD (some (es, bytes, z)) v4 v2 h4 = some (v5, h5) ∧ Sl h5 fp5 v5 es (n + 1) (cs.take (i * es) ++ (row ++ cs.drop (i * es))) ∧ Mod h [] h5 fp5 := by
  obtain ⟨v1, a1, a2⟩ := c.pre (k := i) (t := t) (by omega)
  have hall : ∀ (l l' : List V), (∀ x ∈ l, x ∈ l') → l'.all oneCell = true → l.all oneCell = true := fun l l' hs hl => by
    rw [List.all_eq_true] at hl ⊢
    exact fun x hx => hl x (hs x hx)
  obtain ⟨v3, h3, fp3, b1, b2, b3⟩ := a2.fresh (bytes := bytes) (z := z) hz he hby (hall _ _ (fun x hx => List.mem_of_mem_take hx) h1) (by omega)
  have mN : Mod h3 fp3 (h3.new (.cells row es .rw)) fp3 := Mod.newBox b2.lt
  have b2' : Sl (h3.new (.cells row es .rw)) fp3 v3 es i (cs.take (i * es)) := b2.same (by simp) fun x hx => by
    have := b2.lt x hx
    simp [Nat.ne_of_lt this]
  obtain ⟨v4, h4, fp4, e1, e2, e3⟩ := Sl.append b2' (x := .slice (some ⟨h3.next, 0, none⟩) 1 2) (k := 1) (bytes := bytes) (z := z) (new := row) hz he hby rfl
    (fun _ => by simp [aSrc, sliceCells, AHeap.rdN, hr]; rw [List.take_of_length_le (by omega)]) (by omega) hr1 (by omega)
  have m4 : Mod h [] h4 fp4 := (b3.trans mN).trans e3
  have c4 : Sl h4 fp v es n cs := c.same m4.next fun x hx => m4.same x (c.lt x hx) (by simp)
  obtain ⟨v2, d1, d2, d3⟩ := c4.post (k := i) (t := t) (by omega)
  obtain ⟨v5, h5, fp5, f1, f2, f3⟩ := Sl.append e2 (x := v2) (k := n - i) (bytes := bytes) (z := z) (new := cs.drop (i * es)) hz he hby d2 d3 (by rw [List.length_drop, c.1]; rw [Nat.sub_mul]) (hall _ _ (fun x hx => List.mem_of_mem_drop hx) h1) (by omega)
  refine ⟨v1, v2, v3, h3, a1, (c.slice_same (fun x hx => m4.same x (c.lt x hx) (by simp)) _ _ _).symm.trans d1, b1, ⟨b3.next, b3.same, by simp, by simp⟩, v4, h4, e1, ⟨m4.next, m4.same, by simp, by simp⟩, v5, h5, fp5, f1, ?_, m4.trans f3⟩
  have : i + 1 + (n - i) = n + 1 := by omega
  rw [this, List.append_assoc] at f2
  exact f2

theorem eraseIdx_eq (l : List Msg) (i : Nat) : msgsC (l.eraseIdx i) = (msgsC l).take (i * 4) ++ (msgsC l).drop ((i + 1) * 4) := by
  rw [List.eraseIdx_eq_take_drop_succ]
  have h1 : msgsC (l.take i) = (msgsC l).take (i * 4) := by
    induction l generalizing i with
    | nil => simp
    | cons m l ih =>
      cases i with
      | zero => simp
      | succ i =>
        rw [List.take_succ_cons, msgsC_cons, msgsC_cons, ih, Nat.succ_mul]
        have e : m.cells.take (i * 4 + 4) = m.cells := List.take_of_length_le (by simp [Msg.cells])
        rw [List.take_append, e]
        simp [Msg.cells]
  rw [msgsC_drop, ← h1]
  simp [msgsC]

theorem ref8_Ack (c : Sp h fp p s) (id tok now : Int) (hsz : s.items.length ≤ 1000000) :
    cl (F.estafetteref8_Space_Ack E) [p, i64 id, i64 tok, i64 now] h fun r h' => match s.items.findIdx? (ackP id tok now) with
      | some i => r = .bool true ∧ ∃ fp', Sp h' fp' p { s with items := s.items.eraseIdx i } ∧ Mod h fp h' fp'
      | none => r = .bool false ∧ Sp h' fp p s ∧ Mod h fp h' fp := by
  obtain ⟨b, fP, fI, fL, vP, vI, vL, rfl, rfl, c⟩ := c
  refine cl_of ?_
  simp only [F.estafetteref8_Space_Ack]
  refine ⟨fun k vs h' => ∃ (pre rest : List Msg), vs = [i64 pre.length] ∧ k = rest.length ∧ s.items = pre ++ rest ∧ (∀ m ∈ pre, ackP id tok now m = false) ∧
    SpC h' b fP fI fL vP vI vL s ∧ Mod h (b :: (fP ++ (fI ++ fL))) h' (b :: (fP ++ (fI ++ fL))), s.items.length, ⟨[], s.items, rfl, rfl, rfl, by simp, c, Mod.refl c.lt⟩, ?_⟩
  rintro k e h1 ⟨pre, rest, he, rfl, hit, hpre, c1, m1⟩
  simp only [List.cons.injEq, and_true] at he
  have hlenI := Sl.len c1.items
  have hlen : s.items.length = pre.length + rest.length := by rw [hit]; simp
  simp only [he, aNil_ptr, kv_some, fieldAddr_ptr, ld_one, Nat.zero_add, rd_of c1.cell, List.getElem?_cons_succ, List.getElem?_cons_zero, hlenI, bin_lss, ifV_bool]
  cases rest with
  | nil =>
    have hx : ¬ ((pre.length : Int) < (s.items.length : Nat)) := by rw [hlen]; simp
    have hn : s.items.findIdx? (ackP id tok now) = none := by
      rw [List.findIdx?_eq_none_iff]
      intro m hm
      rw [hit] at hm
      simp at hm
      exact hpre m hm
    simp only [hx, decide_false, Bool.false_eq_true, if_false, hn]
    exact ⟨trivial, ⟨b, fP, fI, fL, vP, vI, vL, rfl, rfl, c1⟩, m1⟩
  | cons m rest =>
    have hx : ((pre.length : Int) < (s.items.length : Nat)) := by rw [hlen]; simp; omega
    have hget : s.items[pre.length]? = some m := by rw [hit]; simp
    obtain ⟨br, i1, _, i3, _⟩ := Ms.at c1.items hget
    simp only [hx, decide_true, if_true, i1, kv_some, i3, new4, kP_some]
    generalize hg2 : h1.new (.cells [.int .i64 0, .string ⟨#[]⟩, .int .i64 0, .int .i64 0] 4 .rw) = h2
    have gb2 : h2.get h1.next = some (.cells [.int .i64 0, .string ⟨#[]⟩, .int .i64 0, .int .i64 0] 4 .rw) := by rw [← hg2]; simp
    rw [st4 gb2, kH_some]
    have gb3 : (h2.put h1.next (.cells m.cells 4 .rw)).get h1.next = some (.cells m.cells 4 .rw) := by simp
    generalize hg3 : h2.put h1.next (.cells m.cells 4 .rw) = h3 at gb3
    have n3 : h3.next = h1.next + 1 := by rw [← hg3, ← hg2]; rfl
    have c3 : SpC h3 b fP fI fL vP vI vL s := c1.same (by omega) fun y hy => by
      have := c1.lt y hy
      rw [← hg3, ← hg2]
      simp [Nat.ne_of_lt this]
    have m3 : Mod h (b :: (fP ++ (fI ++ fL))) h3 (b :: (fP ++ (fI ++ fL))) := by
      rw [← hg3, ← hg2]
      exact (m1.trans (Mod.newBox c1.lt)).putNew m1.next
    have a1 := rd_of gb3 0
    have a2 := rd_of gb3 2
    have a3 := rd_of gb3 3
    simp only [Msg.cells, List.getElem?_cons_succ, List.getElem?_cons_zero] at a1 a2 a3
    have w : IntKind.i64.wrap ((pre.length : Int) + 1) = ((pre.length + 1 : Nat) : Int) := by rw [wrap_i64 (by omega) (by omega)]; omega
    have pre1 : ((pre ++ [m]).length : Int) = ((pre.length + 1 : Nat) : Int) := by simp
    have chain : ∀ (X : V → Prop), X (.bool (ackP id tok now m)) →
        (kv (h3.rd h1.next 0) fun v28 => kv (binD .bad .eql false v28 (i64 id) h3) fun v30 => kv (gdV v30 true (some (ptr h1.next 2))) fun v32 => kv (gdV v30 true (ldD .one v32 h3)) fun v33 => kv (gdV v30 true (some (i64 tok))) fun v34 =>
          kv (gdV v30 true (binD .bad .eql false v33 v34 h3)) fun v35 => kv (pickV v30 v35 (.bool false)) fun v36 => kv (gdV v36 true (some (ptr h1.next 3))) fun v38 => kv (gdV v36 true (ldD .one v38 h3)) fun v39 =>
          kv (gdV v36 true (some (i64 now))) fun v40 => kv (gdV v36 true (binD .bad .gtr false v39 v40 h3)) fun v41 => kv (pickV v36 v41 (.bool false)) X) := by
      intro X hX
      simp only [a1, kv_some, bin_eql]
      unfold ackP at hX
      cases h1 : m.id == id
      · rw [h1] at hX
        simp only [Bool.false_and] at hX
        simp only [gdV_bool, Bool.false_eq_true, if_false, kv_some, gdV_gone, pickV_bool]
        exact hX
      · rw [h1] at hX
        simp only [Bool.true_and] at hX
        simp only [gdV_bool, if_true, kv_some, ld_one, a2, bin_eql, pickV_bool]
        cases h2 : m.count == tok
        · rw [h2] at hX
          simp only [Bool.false_and] at hX
          simp only [gdV_bool, Bool.false_eq_true, if_false, kv_some, gdV_gone, pickV_bool]
          exact hX
        · rw [h2] at hX
          simp only [Bool.true_and] at hX
          simp only [gdV_bool, if_true, kv_some, ld_one, a3, bin_gtr, pickV_bool]
          exact hX
    refine chain _ ?_
    cases hk : ackP id tok now m
    · simp only [ifV_bool, Bool.false_eq_true, if_false, bin_add, w, kv_some]
      refine ⟨rest.length, by simp, pre ++ [m], rest, by rw [pre1], rfl, by rw [hit]; simp, fun x hx => ?_, c3, m3⟩
      simp only [List.mem_append, List.mem_singleton] at hx
      rcases hx with hx | rfl
      · exact hpre x hx
      · exact hk
    · have hf : s.items.findIdx? (ackP id tok now) = some pre.length := by
        rw [List.findIdx?_eq_some_iff_getElem]
        refine ⟨by rw [hlen]; simp, by simpa [hit] using hk, fun j hj => ?_⟩
        have : s.items[j]'(by omega) = pre[j] := by simp only [hit]; rw [List.getElem_append_left hj]
        rw [this]
        have := hpre _ (List.getElem_mem hj)
        simp [this]
      obtain ⟨v1, v2, v3, h4, v4, h5, fI', s1, s2, s3, s4, s5, s6, s7⟩ := Sl.without c3.items (bytes := 40) (z := zMsg) rfl (by decide) (by decide) (msgsC_one _) hsz (i := pre.length) (by rw [hlen]; simp) (t := .i64)
      have s2' : sliceD (.slice 4) vI (some (i64 ((pre.length + 1 : Nat) : Int))) none none h4 = some v2 := (c3.items.slice_same (fun x hx => s5.same x (c3.items.lt x hx) (by simp)) _ _ _).trans s2
      have c4 : SpC h4 b fP fI fL vP vI vL s := c3.same s5.next fun x hx => s5.same x (c3.lt x hx) (by simp)
      simp only [ifV_bool, if_true, rd_of c3.cell, List.getElem?_cons_succ, List.getElem?_cons_zero, kv_some, s1, bin_add, w, s2]
      rw [s3, kP_some]
      simp only [rd_of c4.cell, List.getElem?_cons_succ, List.getElem?_cons_zero, true_and, s2']
      rw [s4, kP_some]
      have g5 : h5.get b = some (.cells [str s.name, i64 s.kind, vP, i64 s.most, vI, vL, i64 s.next] 7 .rw) := by rw [s7.same b c3.b_lt (by simp)]; exact c3.cell
      obtain ⟨q1, q2⟩ := Sl.cell s6
      rw [st_one g5 (by simp) q1 q2 (by simp)]
      simp only [kH_some, List.set_cons_succ, List.set_cons_zero, hf]
      have hI : Ms h5 fI' v4 (s.items.eraseIdx pre.length) := by
        unfold Ms
        rw [eraseIdx_eq, List.length_eraseIdx_of_lt (by rw [hlen]; simp)]
        exact s6
      have s7' : Mod h3 fI h5 fI' := ⟨s7.next, fun x hx _ => s7.same x hx (by simp), fun x hx => by rcases s7.new x hx with h1 | h1; simp at h1; exact .inr h1, s7.lt⟩
      obtain ⟨c6, m6⟩ := c3.setItems s7' hI s.next
      exact ⟨_, ⟨b, fP, fI', fL, vP, v4, vL, rfl, rfl, c6⟩, m3.trans m6⟩

end Go.Abs

/- What the laws' proofs share. -/
import Derived.Test.YthilcedkapakpaaGreatDoorRepA
set_option linter.unusedSimpArgs false
set_option linter.unusedVariables false
namespace Go.Abs
open Go

theorem gdC_yes {b w : Bool} {h : AHeap} {t : (V → AHeap → Prop) → Prop} {K : V → AHeap → Prop} (hb : b = w) (ht : t K) : gdC (.bool b) w h t K :=
  gdC.intro K ⟨.inl ⟨hb, ht⟩, fun _ _ h => h⟩

theorem gdC_no {b w : Bool} {h : AHeap} {t : (V → AHeap → Prop) → Prop} {K : V → AHeap → Prop} (hb : b ≠ w) (hk : K gone h) : gdC (.bool b) w h t K :=
  gdC.intro K ⟨.inr ⟨hb, hk⟩, fun _ _ h => h⟩

theorem gdC_gone {w : Bool} {h : AHeap} {t : (V → AHeap → Prop) → Prop} {K : V → AHeap → Prop} (hk : K gone h) : gdC gone w h t K :=
  gdC.intro K ⟨hk, fun _ _ h => h⟩

/-- A mask of low bits. -/
theorem and_mask {k : EqK} {c : Bool} {h : AHeap} (a m : Int) (h0 : 0 ≤ m) (h1 : m ≤ 4294967295) : ∃ r, binD k .and c (i64 a) (i64 m) h = some (i64 r) ∧ 0 ≤ r ∧ r ≤ m := by
  have e : (BitVec.ofInt 64 a &&& BitVec.ofInt 64 m).toNat ≤ m.toNat := by
    rw [BitVec.toNat_and]
    refine Nat.le_trans Nat.and_le_right ?_
    rw [BitVec.toNat_ofInt]
    omega
  refine ⟨((BitVec.ofInt 64 a &&& BitVec.ofInt 64 m).toNat : Int), ?_, by omega, by omega⟩
  show some (Value.int .i64 (IntKind.i64.wrap _)) = _
  rw [show IntKind.i64.bits = 64 from rfl, wrap_i64 (by omega) (by omega)]

theorem Mod.box {h : AHeap} {h' : AHeap} {fp fp' : List Nat} {o : AObj} (m : Mod (h.new o) fp h' fp') (hl : ∀ x ∈ fp, x < h.next) : h'.get h.next = some o := by
  rw [m.same h.next (by simp) fun hx => Nat.lt_irrefl _ (hl _ hx)]
  simp

theorem law_one {E : FE} {h : AHeap} (b : Bool) : cl (F.estafettelaw8_one E) [.bool b] h fun r h' => h' = h ∧ r = i64 (if b then 1 else 0) := by
  refine cl_of ?_
  cases b <;> simp [F.estafettelaw8_one]

theorem Ms.len {h : AHeap} {fp : List Nat} {v : V} {l : List Msg} (s : Ms h fp v l) : lenD .slice v h = some (i64 l.length) := Sl.len s

end Go.Abs

set_option linter.unusedSimpArgs false
set_option linter.unusedVariables false
namespace Go.Abs
open Go
variable {E : FE} {h : AHeap} {fp : List Nat} {p : V} {most next : Int} {items lost : List Msg}

theorem recv_box (q : Qu h fp p most next items lost) (now ticks : Int) (hsz : items.length + lost.length ≤ 1000000) (hcnt : ∀ m ∈ items, 0 ≤ m.count ∧ m.count ≤ 1000000)
    (hok : ¬ (ticks < 1 ∨ ticks > 1000 ∨ now < 0 ∨ now > 1099511627776)) {K : V → V → AHeap → Prop}
    (hK : ∀ b h' fp', h.next ≤ b → b < h'.next → b ∉ fp' → h'.get b = some (.cells ((recvL most now ticks items).2.2.getD Msg.zero).cells 4 .rw) →
      Qu h' fp' p most next (recvL most now ticks items).1 (lost ++ (recvL most now ticks items).2.1) → Mod h fp h' fp' → K (ptr b 0) (.bool (recvL most now ticks items).2.2.isSome) h') :
    cl (F.queue_Queue_Recv E) [p, i64 now, i64 ticks] h fun r h => kv (aExtract r 0) fun v0 => kv (aExtract r 1) fun v1 =>
      kP (newD none (.agg #[(.int .i64 0), (.string ⟨#[]⟩), (.int .i64 0), (.int .i64 0)]) h) fun bx h => kH (stD (some 4) bx v0 h) fun _ h => K bx v1 h := by
  refine cl_then (queue_Recv q now ticks hsz hcnt) ?_
  intro r h3 hs
  rw [if_neg hok] at hs
  obtain ⟨rfl, f3, q3, m3⟩ := hs
  have lt3 := q3.lt
  simp only [extract_tuple, new4, kP_some, kv_some, List.getElem?_toArray, List.getElem?_cons_zero, List.getElem?_cons_succ]
  generalize hb1 : h3.new (.cells [.int .i64 0, .string ⟨#[]⟩, .int .i64 0, .int .i64 0] 4 .rw) = g1
  have gb1 : g1.get h3.next = some (.cells [.int .i64 0, .string ⟨#[]⟩, .int .i64 0, .int .i64 0] 4 .rw) := by rw [← hb1]; simp
  rw [st4 gb1, kH_some]
  refine hK h3.next _ f3 m3.next ?_ (fun hx => Nat.lt_irrefl _ (lt3 _ hx)) (by simp) (q3.mod (by rw [← hb1]; simp) fun x hx => by rw [← hb1]; simp [Nat.ne_of_lt hx]) ?_
  · rw [← hb1]; simp
  · rw [← hb1]
    exact (m3.trans (Mod.newBox lt3)).putNew m3.next

theorem dead_box (q : Qu h fp p most next items lost) (hsz : lost.length ≤ 1000000) {K : V → V → AHeap → Prop}
    (hK : ∀ b h', h.next ≤ b → b < h'.next → h'.get b = some (.cells (lost.head?.getD Msg.zero).cells 4 .rw) → Qu h' fp p most next items lost.tail → Mod h fp h' fp → K (ptr b 0) (.bool (!lost.isEmpty)) h') :
    cl (F.queue_Queue_Dead E) [p] h fun r h => kv (aExtract r 0) fun v0 => kv (aExtract r 1) fun v1 =>
      kP (newD none (.agg #[(.int .i64 0), (.string ⟨#[]⟩), (.int .i64 0), (.int .i64 0)]) h) fun bx h => kH (stD (some 4) bx v0 h) fun _ h => K bx v1 h := by
  refine cl_then (queue_Dead q hsz) ?_
  intro r h3 hs
  have hs' : r = .tuple #[(lost.head?.getD Msg.zero).agg, .bool (!lost.isEmpty)] ∧ Qu h3 fp p most next items lost.tail ∧ Mod h fp h3 fp := by
    cases lost <;> exact hs
  clear hs
  obtain ⟨rfl, q3, m3⟩ := hs'
  have lt3 := q3.lt
  simp only [extract_tuple, new4, kP_some, kv_some, List.getElem?_toArray, List.getElem?_cons_zero, List.getElem?_cons_succ]
  generalize hb1 : h3.new (.cells [.int .i64 0, .string ⟨#[]⟩, .int .i64 0, .int .i64 0] 4 .rw) = g1
  have gb1 : g1.get h3.next = some (.cells [.int .i64 0, .string ⟨#[]⟩, .int .i64 0, .int .i64 0] 4 .rw) := by rw [← hb1]; simp
  rw [st4 gb1, kH_some]
  refine hK h3.next _ m3.next ?_ (by simp) (q3.mod (by rw [← hb1]; simp) fun x hx => by rw [← hb1]; simp [Nat.ne_of_lt hx]) ?_
  · rw [← hb1]; simp
  · rw [← hb1]
    exact (m3.trans (Mod.newBox lt3)).putNew m3.next

theorem add_i64 {k : EqK} {c : Bool} (a b : Int) (h1 : -9223372036854775808 ≤ a + b) (h2 : a + b ≤ 9223372036854775807) : binD k .add c (i64 a) (i64 b) h = some (i64 (a + b)) := by
  rw [bin_add, wrap_i64 h1 h2]

theorem sub_i64 {k : EqK} {c : Bool} (a b : Int) (h1 : -9223372036854775808 ≤ a - b) (h2 : a - b ≤ 9223372036854775807) : binD k .sub c (i64 a) (i64 b) h = some (i64 (a - b)) := by
  rw [bin_sub, wrap_i64 h1 h2]

end Go.Abs

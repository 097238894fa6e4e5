/- (In this seat Fns8 has all.) -/
import Derived.Test.YthhegdifbnghpaaGreatDoorWas
import Derived.Test.YthhegdifbnghpaaGreatDoorWao
import Derived.Test.YthhegdifbnghpaaGreatDoorWan
set_option linter.unusedSimpArgs false
set_option linter.unusedVariables false
namespace Go.Abs
open Go
structure Msg where
 id : Int
 val : ByteArray
 count : Int
 till : Int
deriving DecidableEq
def Msg.cells (m : Msg) : List V := [i64 m.id, str m.val, i64 m.count, i64 m.till]
def msgsC (l : List Msg) : List V := l.flatMap Msg.cells
@[simp] theorem msgsC_nil : msgsC [] = [] := rfl
@[simp] theorem msgsC_cons (m : Msg) (l : List Msg) : msgsC (m :: l) = m.cells ++ msgsC l := rfl
@[simp] theorem msgsC_append (a b : List Msg) : msgsC (a ++ b) = msgsC a ++ msgsC b := by simp [msgsC]
@[simp] theorem cells_length (m : Msg) : m.cells.length = 4 := rfl
@[simp] theorem msgsC_length (l : List Msg) : (msgsC l).length = l.length * 4 := by
 induction l with
 | nil => rfl
 | cons m l ih => simp [ih, Nat.add_mul, Nat.add_comm]
theorem msgsC_drop (l : List Msg) (k : Nat) : (msgsC l).drop (k * 4) = msgsC (l.drop k) := by
 induction l generalizing k with
 | nil => simp
 | cons m l ih =>
  cases k with
  | zero => simp
  | succ k =>
   rw [List.drop_succ_cons, msgsC_cons, Nat.add_mul, Nat.one_mul, Nat.add_comm, ← ih k, List.drop_append]
   simp [List.drop_eq_nil_of_le]
def Ms (h : AHeap) (fp : List Nat) (v : V) (l : List Msg) : Prop := Sl h fp v 4 l.length (msgsC l)
variable {E : FE} {h : AHeap} {fp : List Nat} {v : V} {l : List Msg}
theorem Ms.lt (s : Ms h fp v l) : ∀ x ∈ fp, x < h.next := Sl.lt s
theorem Ms.same {h' : AHeap} (s : Ms h fp v l) (hl : h.next ≤ h'.next) (hs : ∀ x ∈ fp, h'.get x = h.get x) : Ms h' fp v l := Sl.same s hl hs
end Go.Abs
namespace Go.Abs
open Go
def Qu (h : AHeap) (fp : List Nat) (p : V) (most next : Int) (items lost : List Msg) : Prop :=
 ∃ b fi fl vi vl, p = ptr b 0 ∧ fp = b :: (fi ++ fl) ∧ b < h.next ∧ h.get b = some (.cells [i64 most, vi, vl, i64 next] 4 .rw) ∧ Ms h fi vi items ∧ Ms h fl vl lost ∧
  b ∉ fi ∧ b ∉ fl ∧ ∀ x ∈ fi, x ∉ fl
variable {E : FE} {h : AHeap} {fp : List Nat} {p : V} {most next : Int} {items lost : List Msg}
theorem Qu.lt (q : Qu h fp p most next items lost) : ∀ x ∈ fp, x < h.next := by
 obtain ⟨b, fi, fl, vi, vl, rfl, rfl, hb, h1, h2, h3, _⟩ := q
 intro x hx
 simp only [List.mem_cons, List.mem_append] at hx
 rcases hx with rfl | hx | hx
 · exact hb
 · exact h2.lt x hx
 · exact h3.lt x hx
theorem Qu.same {h' : AHeap} (q : Qu h fp p most next items lost) (hl : h.next ≤ h'.next) (hs : ∀ x ∈ fp, h'.get x = h.get x) : Qu h' fp p most next items lost := by
 obtain ⟨b, fi, fl, vi, vl, rfl, rfl, hb, h1, h2, h3, h4⟩ := q
 exact ⟨b, fi, fl, vi, vl, rfl, rfl, by omega, by rw [hs b (by simp), h1], h2.same hl fun x hx => hs x (by simp [hx]), h3.same hl fun x hx => hs x (by simp [hx]), h4⟩
theorem wrap_i64 {n : Int} (h1 : -9223372036854775808 ≤ n) (h2 : n ≤ 9223372036854775807) : IntKind.i64.wrap n = n := wrap_id h1 h2
theorem st_of {b o n : Nat} {cs vs : List V} {e : Nat} {k : BK} {x : V} (hb : h.get b = some (.cells cs e k)) (hk : k ≠ .ro) (hx : cellsOf x = some vs) (hn : vs.length = n) (h1 : vs.all oneCell = true) (ho : o + n ≤ cs.length) :
 stD (some n) (ptr b o) x h = some (h.put b (.cells (setList cs o vs) e k)) := by
 subst hn
 simp only [stD, hx, h1, and_self, if_true, AHeap.wr, hb]
 rw [if_pos ⟨hk, ho⟩]
theorem st_one {b o : Nat} {cs : List V} {e : Nat} {k : BK} {x : V} (hb : h.get b = some (.cells cs e k)) (hk : k ≠ .ro) (hx : cellsOf x = some [x]) (h1 : oneCell x = true) (ho : o < cs.length) :
 stD (some 1) (ptr b o) x h = some (h.put b (.cells (cs.set o x) e k)) := st_of hb hk hx rfl (by simp [h1]) ho
theorem Sl.cell {fp : List Nat} {v : V} {es n : Nat} {cs : List V} (s : Sl h fp v es n cs) : cellsOf v = some [v] ∧ oneCell v = true := by
 obtain ⟨_, ⟨rfl, _⟩ | ⟨b, c, all, rfl, _⟩⟩ := s <;> exact ⟨rfl, rfl⟩
end Go.Abs
namespace Go.Abs
open Go
variable {E : FE} {h : AHeap} {fp : List Nat} {p : V} {most next : Int} {items lost : List Msg}
abbrev Msg.agg (m : Msg) : V := .agg #[i64 m.id, str m.val, i64 m.count, i64 m.till]
abbrev Msg.zero : Msg := ⟨0, ⟨#[]⟩, 0, 0⟩
theorem st4 {b : Nat} {c1 c2 c3 c4 : V} {m : Msg} (hb : h.get b = some (.cells [c1, c2, c3, c4] 4 .rw)) : stD (some 4) (ptr b 0) m.agg h = some (h.put b (.cells m.cells 4 .rw)) :=
 st_of (n := 4) (vs := m.cells) (o := 0) hb (by simp) rfl rfl rfl (by simp)
theorem Ms.at {v : V} {l : List Msg} (s : Ms h fp v l) {i : Nat} {m : Msg} (hi : l[i]? = some m) :
 ∃ b, indexAddrD (.slice 4) v (i64 i) = some (ptr b (i * 4)) ∧ b ∈ fp ∧ ldD (.agg 4) (ptr b (i * 4)) h = some m.agg ∧
  h.rd b (i * 4) = some (i64 m.id) ∧ h.rd b (i * 4 + 1) = some (str m.val) ∧ h.rd b (i * 4 + 2) = some (i64 m.count) ∧ h.rd b (i * 4 + 3) = some (i64 m.till) := by
 have hil : i < l.length := (List.getElem?_eq_some_iff.1 hi).1
 obtain ⟨h0, ⟨rfl, h1, rfl⟩ | ⟨b, c, all, rfl, rfl, hb, hc, h2, h3, h4⟩⟩ := s
 · omega
 have hall : l.length * 4 ≤ all.length := Nat.le_trans (Nat.mul_le_mul_right _ hc) h3
 have hrow : (all.drop (i * 4)).take 4 = m.cells := by
  have e : (msgsC l).drop (i * 4) = msgsC (l.drop i) := msgsC_drop l i
  rw [List.drop_eq_getElem_cons hil, msgsC_cons] at e
  have : l[i] = m := (List.getElem?_eq_some_iff.1 hi).2
  rw [this, ← h4, List.drop_take] at e
  have e2 := congrArg (List.take 4) e
  rw [List.take_take, Nat.min_eq_left (by omega)] at e2
  rw [e2]
  rfl
 have hcell : ∀ k, k < 4 → all[i * 4 + k]? = m.cells[k]? := by
  intro k hk
  rw [← hrow, List.getElem?_take, if_pos hk, List.getElem?_drop]
 have b1 : (0 : Int) ≤ (i : Int) ∧ (i : Int) < (l.length : Nat) := by omega
 refine ⟨b, ?_, by simp, ?_, ?_, ?_, ?_, ?_⟩
 · simp only [indexAddrD, if_pos b1, Int.toNat_natCast, Nat.zero_add]
 · rw [ld_agg, rdN_of h2, if_pos (by omega), hrow]; rfl
 · rw [rd_of h2]; exact hcell 0 (by decide)
 · rw [rd_of h2]; exact hcell 1 (by decide)
 · rw [rd_of h2]; exact hcell 2 (by decide)
 · rw [rd_of h2]; exact hcell 3 (by decide)
theorem Mod.newBox {fp : List Nat} {o : AObj} (hl : ∀ x ∈ fp, x < h.next) : Mod h fp (h.new o) fp :=
 ⟨by simp, fun x hx _ => by
  have : x ≠ h.next := by omega
  simp [this], fun x hx => .inl hx, fun x hx => by have := hl x hx; simp; omega⟩
theorem Mod.putNew {h' : AHeap} {fp fp' : List Nat} {b : Nat} {o : AObj} (m : Mod h fp h' fp') (hb : h.next ≤ b) : Mod h fp (h'.put b o) fp' :=
 ⟨m.next, fun x hx hn => by
  have : x ≠ b := by omega
  simp [this, m.same x hx hn], m.new, m.lt⟩
end Go.Abs
namespace Go.Abs
open Go
variable {E : FE} {h : AHeap} {fp : List Nat} {p : V} {most next : Int} {items lost : List Msg}
theorem aCall_mono {I : FuncId → Option Spec} (hM : MonoI I) {f : V} {args : List V} {h : AHeap} {K K' : V → AHeap → Prop} (hk : ∀ v h, K v h → K' v h) (hn : aCall I f args h K) : aCall I f args h K' := by
 unfold aCall at hn ⊢
 split
 · rename_i g first captured
   simp only at hn
   cases hg : I g with
   | none => simp only [hg] at hn
   | some s => simp only [hg] at hn ⊢; exact hM g s hg _ _ _ _ hk hn
 · rename_i hf
   split at hn
   · exact absurd rfl (hf _ _ _)
   · exact hn
end Go.Abs
namespace Go.Abs
open Go
variable {E : FE} {h : AHeap} {fp : List Nat} {p : V} {most next : Int} {items lost : List Msg}
theorem Ms.set {v : V} {l : List Msg} (s : Ms h fp v l) {i : Nat} {m : Msg} (hi : l[i]? = some m) (c t : Int) :
 ∃ b, indexAddrD (.slice 4) v (i64 i) = some (ptr b (i * 4)) ∧ fp = [b] ∧ ∃ h1 h2, stD (some 1) (ptr b (i * 4 + 2)) (i64 c) h = some h1 ∧ h1.next = h.next ∧ (∀ x, x ≠ b → h1.get x = h.get x) ∧
  stD (some 1) (ptr b (i * 4 + 3)) (i64 t) h1 = some h2 ∧ h2.next = h.next ∧ (∀ x, x ≠ b → h2.get x = h.get x) ∧ Ms h2 fp v (l.set i { m with count := c, till := t }) := by
 have hil : i < l.length := (List.getElem?_eq_some_iff.1 hi).1
 obtain ⟨h0, ⟨rfl, h1, rfl⟩ | ⟨b, cp, all, rfl, rfl, hb, hc, h2, h3, h4⟩⟩ := s
 · omega
 have hall : l.length * 4 ≤ all.length := Nat.le_trans (Nat.mul_le_mul_right _ hc) h3
 have b1 : (0 : Int) ≤ (i : Int) ∧ (i : Int) < (l.length : Nat) := by omega
 refine ⟨b, ?_, rfl, h.put b (.cells (all.set (i * 4 + 2) (i64 c)) 4 .rw), (h.put b (.cells (all.set (i * 4 + 2) (i64 c)) 4 .rw)).put b (.cells ((all.set (i * 4 + 2) (i64 c)).set (i * 4 + 3) (i64 t)) 4 .rw), ?_, rfl, fun x hx => by simp [hx], ?_, rfl, fun x hx => by simp [hx], ?_⟩
 · simp only [indexAddrD, if_pos b1, Int.toNat_natCast, Nat.zero_add]
 · exact st_one h2 (by simp) rfl rfl (by omega)
 · exact st_one (by simp) (by simp) rfl rfl (by simp; omega)
 · refine ⟨by simp, .inr ⟨b, cp, (all.set (i * 4 + 2) (i64 c)).set (i * 4 + 3) (i64 t), by simp, rfl, by simpa using hb, by simpa using hc, by simp, by simpa using h3, ?_⟩⟩
   rw [List.length_set, List.take_set, List.take_set, h4]
   have key : ∀ (l : List Msg) (i : Nat), l[i]? = some m → ((msgsC l).set (i * 4 + 2) (i64 c)).set (i * 4 + 3) (i64 t) = msgsC (l.set i { m with count := c, till := t }) := by
    intro l
    induction l with
    | nil => intro i h; simp at h
    | cons a l ih =>
     intro i hi
     cases i with
     | zero =>
      simp at hi
      subst hi
      rfl
     | succ i =>
      have := ih i (by simpa using hi)
      rw [List.set_cons_succ, msgsC_cons, msgsC_cons, ← this]
      rw [List.set_append_right _ _ (by simp; omega), List.set_append_right _ _ (by simp; omega)]
      simp only [cells_length]
      rw [show (i + 1) * 4 + 2 - 4 = i * 4 + 2 by omega, show (i + 1) * 4 + 3 - 4 = i * 4 + 3 by omega]
   exact key l i hi
end Go.Abs
namespace Go.Abs
open Go
def Stp (l : List En) (clk : Nat) : Prop := (l.map (·.b)).Nodup ∧ ∀ e ∈ l, e.b < clk
def Tab (h : AHeap) (fp : List Nat) (p : V) (l : List En) : Prop :=
 ∃ b m clk, p = ptr b 0 ∧ fp = [b, m] ∧ b ≠ m ∧ b < h.next ∧ m < h.next ∧ h.get b = some (.cells [.map (some m)] 1 .rw) ∧ h.get m = some (.map (l.map ME) clk) ∧ (keysE l).Nodup ∧ Stp l clk
theorem Tab.lt {h : AHeap} {fp : List Nat} {p : V} {l : List En} (t : Tab h fp p l) : ∀ x ∈ fp, x < h.next := by
 obtain ⟨b, m, clk, rfl, rfl, hne, hb, hm, h1, h2, hn⟩ := t
 simp
 exact ⟨hb, hm⟩
theorem Tab.same {h h' : AHeap} {fp : List Nat} {p : V} {l : List En} (t : Tab h fp p l) (hl : h.next ≤ h'.next) (hs : ∀ x ∈ fp, h'.get x = h.get x) : Tab h' fp p l := by
 obtain ⟨b, m, clk, rfl, rfl, hne, hb, hm, h1, h2, hn⟩ := t
 exact ⟨b, m, clk, rfl, rfl, hne, by omega, by omega, by rw [hs b (by simp), h1], by rw [hs m (by simp), h2], hn⟩
variable {E : FE} {h : AHeap} {fp : List Nat} {p : V} {l : List En}
end Go.Abs
namespace Go.Abs
open Go
def Ts (h : AHeap) (fp : List Nat) (v : V) (l : List ByteArray) : Prop := Sl h fp v 1 l.length (l.map str)
variable {E : FE} {h : AHeap} {fp : List Nat} {v p : V} {l : List ByteArray}
theorem Ts.lt (s : Ts h fp v l) : ∀ x ∈ fp, x < h.next := Sl.lt s
theorem Ts.same {h' : AHeap} (s : Ts h fp v l) (hl : h.next ≤ h'.next) (hs : ∀ x ∈ fp, h'.get x = h.get x) : Ts h' fp v l := Sl.same s hl hs
theorem strs_one (l : List ByteArray) : (l.map str).all oneCell = true := by
 induction l with
 | nil => rfl
 | cons a l ih => simp only [List.map_cons, List.all_cons, ih]; rfl
theorem clone_of {x : V} {n : Nat} {new : List V} (hn : ∃ b, binD .slice .eql true x (.slice none 0 0) h = some (.bool b) ∧ (b = true → n = 0)) (hx : ∀ o, aLenOf x = some n ∧ aSrc 1 x (h.new o) = some new) (hl : new.length = n) (h1 : new.all oneCell = true) (hsz : n ≤ 1000000) :
 cl (F.slices_Clone_Sstring_string E) [x] h fun r h' => ∃ fp', Sl h' fp' r 1 n new ∧ Mod h [] h' fp' := by
 refine cl_of ?_
 obtain ⟨b, hb, hnil⟩ := hn
 simp only [F.slices_Clone_Sstring_string, hb, kv_some, ifV_bool]
 cases b with
 | true =>
  have h0 := hnil rfl
  have : new = [] := List.eq_nil_of_length_eq_zero (by omega)
  subst this
  subst h0
  simp only [if_true]
  exact ⟨[], Sl.nil, Mod.refl (by simp)⟩
 | false =>
  have e0 : buildSliceD (some (1, [(.string ⟨#[]⟩)])) 0 [] h = some (.slice (some ⟨h.next, 0, none⟩) 0 0, h.new (.cells [] 1 .rw)) := rfl
  simp only [Bool.false_eq_true, if_false, e0, kP_some]
  have s1 : Sl (h.new (.cells [] 1 .rw)) [h.next] (.slice (some ⟨h.next, 0, none⟩) 0 0) 1 0 [] := ⟨by simp, .inr ⟨h.next, 0, [], rfl, rfl, by simp, by simp, by simp, by simp, by simp⟩⟩
  obtain ⟨v', h', fp', e1, e2, e3⟩ := Sl.append s1 (bytes := 16) (z := [.string ⟨#[]⟩]) (k := n) (new := new) rfl (by decide) (by decide) (hx (.cells [] 1 .rw)).1 (fun _ => (hx (.cells [] 1 .rw)).2) (by omega) h1 (by omega)
  rw [e1]
  simp only [kP_some]
  refine ⟨fp', by simpa using e2, by have := e3.next; simp at this; omega, fun x hx _ => ?_, fun x hx => ?_, e3.lt⟩
  · have hne : x ≠ h.next := by omega
    rw [e3.same x (by simp; omega) (by simpa using hne)]
    simp [hne]
  · rcases e3.new x hx with h1 | h1
    · simp at h1; right; omega
    · simp at h1; right; omega
theorem clone_strs (s : Ts h fp v l) (hsz : l.length ≤ 1000000) : cl (F.slices_Clone_Sstring_string E) [v] h fun r h' => ∃ fp', Ts h' fp' r l ∧ Mod h [] h' fp' := by
 obtain ⟨b, hb, hn⟩ := Sl.isNil s true
 refine clone_of ⟨b, hb, fun h => (hn h).1⟩ (fun o => ?_) (by simp) (strs_one l) hsz
 have : Ts (h.new o) fp v l := s.same (by simp) fun x hx => by
  have := s.lt x hx
  have : x ≠ h.next := by omega
  simp [this]
 exact Sl.src this
def To (h : AHeap) (fp : List Nat) (p : V) (l : List ByteArray) (g : List En) : Prop :=
 ∃ b m fl vl clk, p = ptr b 0 ∧ fp = b :: m :: fl ∧ b ≠ m ∧ b < h.next ∧ m < h.next ∧ h.get b = some (.cells [vl, .map (some m)] 2 .rw) ∧ h.get m = some (.map (g.map ME) clk) ∧ Ts h fl vl l ∧
  b ∉ fl ∧ m ∉ fl ∧ ((keysE g).Nodup ∧ Stp g clk) ∧ ∀ e ∈ g, ∃ n : Int, e.v = i64 n
theorem To.lt {g : List En} (t : To h fp p l g) : ∀ x ∈ fp, x < h.next := by
 obtain ⟨b, m, fl, vl, clk, rfl, rfl, hne, hb, hm, h1, h2, h3, _⟩ := t
 intro x hx
 simp only [List.mem_cons] at hx
 rcases hx with rfl | rfl | hx
 · exact hb
 · exact hm
 · exact h3.lt x hx
theorem To.same {g : List En} {h' : AHeap} (t : To h fp p l g) (hl : h.next ≤ h'.next) (hs : ∀ x ∈ fp, h'.get x = h.get x) : To h' fp p l g := by
 obtain ⟨b, m, fl, vl, clk, rfl, rfl, hne, hb, hm, h1, h2, h3, h4⟩ := t
 exact ⟨b, m, fl, vl, clk, rfl, rfl, hne, by omega, by omega, by rw [hs b (by simp), h1], by rw [hs m (by simp), h2], h3.same hl fun x hx => hs x (by simp [hx]), h4⟩
end Go.Abs
namespace Go.Abs
open Go
theorem gdC_yes {b w : Bool} {h : AHeap} {t : (V → AHeap → Prop) → Prop} {K : V → AHeap → Prop} (hb : b = w) (ht : t K) : gdC (.bool b) w h t K :=
 gdC.intro K ⟨.inl ⟨hb, ht⟩, fun _ _ h => h⟩
theorem gdC_no {b w : Bool} {h : AHeap} {t : (V → AHeap → Prop) → Prop} {K : V → AHeap → Prop} (hb : b ≠ w) (hk : K gone h) : gdC (.bool b) w h t K :=
 gdC.intro K ⟨.inr ⟨hb, hk⟩, fun _ _ h => h⟩
theorem Ms.len {h : AHeap} {fp : List Nat} {v : V} {l : List Msg} (s : Ms h fp v l) : lenD .slice v h = some (i64 l.length) := Sl.len s
end Go.Abs
namespace Go.Abs
open Go
variable {E : FE} {h : AHeap} {fp : List Nat} {p : V} {most next : Int} {items lost : List Msg}
theorem add_i64 {k : EqK} {c : Bool} (a b : Int) (h1 : -9223372036854775808 ≤ a + b) (h2 : a + b ≤ 9223372036854775807) : binD k .add c (i64 a) (i64 b) h = some (i64 (a + b)) := by
 rw [bin_add, wrap_i64 h1 h2]
theorem sub_i64 {k : EqK} {c : Bool} (a b : Int) (h1 : -9223372036854775808 ≤ a - b) (h2 : a - b ≤ 9223372036854775807) : binD k .sub c (i64 a) (i64 b) h = some (i64 (a - b)) := by
 rw [bin_sub, wrap_i64 h1 h2]
end Go.Abs

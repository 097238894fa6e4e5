/- Things that stand apart, in another order, or less of them: by number. -/
import Derived.Test.YthhegdifbnghpaaGreatDoorVbb
import Derived.Test.YthhegdifbnghpaaGreatDoorVaw
import Derived.Test.YthhegdifbnghpaaGreatDoorVat
import Derived.Test.YthhegdifbnghpaaGreatDoorVau
set_option linter.unusedSimpArgs false
set_option linter.unusedVariables false
namespace Go.Abs
open Go
def plNo : Pl := plPure True
def reOk (is : List Nat) (n : Nat) : Bool := decide is.Nodup && is.all fun i => decide (i < n)
section
variable {F : Fr} {h : AHeap} {L : List Pl}
theorem Sep.re (pre : List Pl) (is : List Nat) (s : Sep F h (pre ++ L)) (hp : reOk is pre.length = true) : Sep F h (is.map (fun i => pre.getD i plNo) ++ L) := by
 simp only [reOk, Bool.and_eq_true, decide_eq_true_eq, List.all_eq_true] at hp
 obtain ⟨hn, hl⟩ := hp
 let js := (List.range pre.length).filter fun i => decide (i ∉ is)
 have e1 : pre = (List.range pre.length).map fun i => pre.getD i plNo := by
  refine List.ext_getElem (by simp) fun i h1 h2 => ?_
  simp [h1]
 have hperm : (List.range pre.length).Perm (js ++ is) := by
  refine (List.perm_ext_iff_of_nodup List.nodup_range ?_).2 fun x => ?_
  · rw [List.nodup_append]
    refine ⟨List.nodup_range.sublist List.filter_sublist, hn, ?_⟩
    intro a ha b hb e
    have := (List.mem_filter.1 ha).2
    rw [decide_eq_true_eq] at this
    exact this (e ▸ hb)
  · rw [List.mem_append, List.mem_filter, List.mem_range]
    constructor
    · intro hx
      by_cases hi : x ∈ is
      · exact .inr hi
      · exact .inl ⟨hx, by simpa using hi⟩
    · rintro (hx | hx)
      · exact hx.1
      · exact hl x hx
 have s1 : Sep F h ((js.map fun i => pre.getD i plNo) ++ ((is.map fun i => pre.getD i plNo) ++ L)) := by
  refine s.perm ?_
  rw [← List.append_assoc, ← List.map_append]
  refine List.Perm.append_right L ?_
  conv => lhs; rw [e1]
  exact hperm.map _
 exact s1.dropL
theorem Sep.re3 {A0 A1 A2 : Pl} (s : Sep F h (A0 :: A1 :: A2 :: L)) (is : List Nat) (hp : reOk is 3 = true) : Sep F h (is.map (fun i => [A0, A1, A2].getD i plNo) ++ L) := Sep.re [A0, A1, A2] is s hp
theorem Sep.re4 {A0 A1 A2 A3 : Pl} (s : Sep F h (A0 :: A1 :: A2 :: A3 :: L)) (is : List Nat) (hp : reOk is 4 = true) : Sep F h (is.map (fun i => [A0, A1, A2, A3].getD i plNo) ++ L) := Sep.re [A0, A1, A2, A3] is s hp
theorem Sep.re5 {A0 A1 A2 A3 A4 : Pl} (s : Sep F h (A0 :: A1 :: A2 :: A3 :: A4 :: L)) (is : List Nat) (hp : reOk is 5 = true) : Sep F h (is.map (fun i => [A0, A1, A2, A3, A4].getD i plNo) ++ L) := Sep.re [A0, A1, A2, A3, A4] is s hp
theorem Sep.re6 {A0 A1 A2 A3 A4 A5 : Pl} (s : Sep F h (A0 :: A1 :: A2 :: A3 :: A4 :: A5 :: L)) (is : List Nat) (hp : reOk is 6 = true) : Sep F h (is.map (fun i => [A0, A1, A2, A3, A4, A5].getD i plNo) ++ L) := Sep.re [A0, A1, A2, A3, A4, A5] is s hp
theorem Sep.re7 {A0 A1 A2 A3 A4 A5 A6 : Pl} (s : Sep F h (A0 :: A1 :: A2 :: A3 :: A4 :: A5 :: A6 :: L)) (is : List Nat) (hp : reOk is 7 = true) : Sep F h (is.map (fun i => [A0, A1, A2, A3, A4, A5, A6].getD i plNo) ++ L) := Sep.re [A0, A1, A2, A3, A4, A5, A6] is s hp
theorem Sep.re8 {A0 A1 A2 A3 A4 A5 A6 A7 : Pl} (s : Sep F h (A0 :: A1 :: A2 :: A3 :: A4 :: A5 :: A6 :: A7 :: L)) (is : List Nat) (hp : reOk is 8 = true) : Sep F h (is.map (fun i => [A0, A1, A2, A3, A4, A5, A6, A7].getD i plNo) ++ L) := Sep.re [A0, A1, A2, A3, A4, A5, A6, A7] is s hp
theorem Sep.re9 {A0 A1 A2 A3 A4 A5 A6 A7 A8 : Pl} (s : Sep F h (A0 :: A1 :: A2 :: A3 :: A4 :: A5 :: A6 :: A7 :: A8 :: L)) (is : List Nat) (hp : reOk is 9 = true) : Sep F h (is.map (fun i => [A0, A1, A2, A3, A4, A5, A6, A7, A8].getD i plNo) ++ L) := Sep.re [A0, A1, A2, A3, A4, A5, A6, A7, A8] is s hp
theorem Sep.re10 {A0 A1 A2 A3 A4 A5 A6 A7 A8 A9 : Pl} (s : Sep F h (A0 :: A1 :: A2 :: A3 :: A4 :: A5 :: A6 :: A7 :: A8 :: A9 :: L)) (is : List Nat) (hp : reOk is 10 = true) : Sep F h (is.map (fun i => [A0, A1, A2, A3, A4, A5, A6, A7, A8, A9].getD i plNo) ++ L) := Sep.re [A0, A1, A2, A3, A4, A5, A6, A7, A8, A9] is s hp
theorem Sep.re11 {A0 A1 A2 A3 A4 A5 A6 A7 A8 A9 A10 : Pl} (s : Sep F h (A0 :: A1 :: A2 :: A3 :: A4 :: A5 :: A6 :: A7 :: A8 :: A9 :: A10 :: L)) (is : List Nat) (hp : reOk is 11 = true) : Sep F h (is.map (fun i => [A0, A1, A2, A3, A4, A5, A6, A7, A8, A9, A10].getD i plNo) ++ L) := Sep.re [A0, A1, A2, A3, A4, A5, A6, A7, A8, A9, A10] is s hp
theorem Sep.re12 {A0 A1 A2 A3 A4 A5 A6 A7 A8 A9 A10 A11 : Pl} (s : Sep F h (A0 :: A1 :: A2 :: A3 :: A4 :: A5 :: A6 :: A7 :: A8 :: A9 :: A10 :: A11 :: L)) (is : List Nat) (hp : reOk is 12 = true) : Sep F h (is.map (fun i => [A0, A1, A2, A3, A4, A5, A6, A7, A8, A9, A10, A11].getD i plNo) ++ L) := Sep.re [A0, A1, A2, A3, A4, A5, A6, A7, A8, A9, A10, A11] is s hp
theorem Sep.re13 {A0 A1 A2 A3 A4 A5 A6 A7 A8 A9 A10 A11 A12 : Pl} (s : Sep F h (A0 :: A1 :: A2 :: A3 :: A4 :: A5 :: A6 :: A7 :: A8 :: A9 :: A10 :: A11 :: A12 :: L)) (is : List Nat) (hp : reOk is 13 = true) : Sep F h (is.map (fun i => [A0, A1, A2, A3, A4, A5, A6, A7, A8, A9, A10, A11, A12].getD i plNo) ++ L) := Sep.re [A0, A1, A2, A3, A4, A5, A6, A7, A8, A9, A10, A11, A12] is s hp
end
variable {F : Fr} {h : AHeap} {L : List Pl} {k k' : Nat} {p : V} {st : VltM}
end Go.Abs
namespace Go.Abs
open Go
variable {sp : List (ByteArray × SpM)} {pt : List (IdM × PartM)} {now : Int} {view : List (ByteArray × Option SpM)} {k : Nat} {st : VltM} {id : IdM}
structure VwOk (sp : List (ByteArray × SpM)) (done : List Oq) (view : List (ByteArray × Option SpM)) : Prop where
 nd : (keysL view).Nodup
 of : ∀ n x, lkp n view = some x → ∃ o ∈ done, o.space = n
 tab : ∀ n x, lkp n view = some x → (∀ o ∈ done, o.space = n → 3 ≤ o.fn ∧ o.fn ≤ 5) → ∃ s t, x = some s ∧ s.kind = 1 ∧ lkp n sp = some t ∧ t.kind = 1
theorem VwOk.nil : VwOk sp [] [] := ⟨by simp [keysL], by simp [lkp], by simp [lkp]⟩
end Go.Abs
namespace Go.Abs
open Go Go.Proofs
variable {E : FE} {F : Fr} {h : AHeap} {L : List Pl} {k : Nat} {p v : V} {st : VltM}
theorem kv_of {x : Option V} {v : V} {K : V → Prop} (hx : x = some v) (hk : K v) : kv x K := by subst hx; rwa [kv_some]
theorem kP_of {x : Option (V × AHeap)} {v : V} {g : AHeap} {K : V → AHeap → Prop} (hx : x = some (v, g)) (hk : K v g) : kP x K := by subst hx; rwa [kP_some]
theorem Ro.pre {N es n k : Nat} {cs : List V} (s : Ro N h v es n cs) (he : 0 < es) (hk : k ≤ n) : ∃ v', sliceD (.slice es) v none (some (i64 k)) none h = some v' ∧ aLenOf v' = some k ∧ (k ≠ 0 → aSrc es v' h = some (cs.take (k * es))) := by
 obtain ⟨h0, h1, ⟨rfl, rfl⟩ | ⟨b, o, c, all, rfl, hb, hc, hg, ha⟩⟩ := s
 · obtain rfl : k = 0 := by omega
   exact ⟨.slice none 0 0, by simp [sliceD, aBoundO, aBound], rfl, fun h => absurd rfl h⟩
 · have hk2 : (0 : Int) ≤ k ∧ (k : Int) ≤ ((c / 2 : Nat) : Int) := by omega
   refine ⟨.slice (some ⟨b, o, none⟩) k c, ?_, rfl, fun hk0 => ?_⟩
   · simp only [sliceD, hg, if_true, aBoundO, aBound, if_pos hk2, Int.toNat_natCast]
   · show h.rdN b o (k * es) = _
     have h2 : k * es ≤ n * es := Nat.mul_le_mul_right _ hk
     have h3 : ((all.drop o).take (n * es)).length = n * es := by rw [ha, h0]
     rw [List.length_take, List.length_drop] at h3
     have h4 : 0 < k * es := Nat.mul_pos (by omega) he
     rw [rdN_of hg, if_pos (by omega), ← ha, List.take_take, Nat.min_eq_left h2]
def G.cut (n : Int) : Spec := fun args h K => match args with
| [a0] =>
kv (lenD .slice a0 h) fun v5_0 =>
kv (aMinMax false [v5_0, (.int .i64 n)]) fun v6_1 =>
kv (sliceD (.slice 5) a0 none (some v6_1) none h) fun v7_2 =>
kP (appendD (some (5, 64, [(.int .i64 0), (.string ⟨#[]⟩), (.string ⟨#[]⟩), (.string ⟨#[]⟩), (.int .i64 0)])) (.slice none 0 0) v7_2 h) fun v8_3 h =>
K v8_3 h
| _ => False
theorem Ops_cut (E : FE) : Go.Abs.F.estafettelaw12_Ops E = G.cut 10 := rfl
theorem cut_ops {N : Nat} {l : List Oq} (n : Nat) (hn : n ≤ 1000) (hO : Oqs N h v l) (s : Sep F h L) : cl (G.cut n) [v] h fun r h' => Sep F h' (plOps r (l.take n) :: L) := by
 refine cl_of ?_
 have hO : Ro N h v 5 l.length (l.flatMap Oq.cells) := hO
 have e : min ((l.length : Nat) : Int) (n : Int) = ((min l.length n : Nat) : Int) := by omega
 simp only [G.cut]
 rw [Ro.len hO h, kv_some, min2, kv_some, e]
 obtain ⟨v', e1, e2, e3⟩ := Ro.pre hO (by decide) (k := min l.length n) (by omega)
 rw [e1, kv_some]
 have ht : l.take (min l.length n) = l.take n := by
  by_cases hl : l.length ≤ n
  · rw [Nat.min_eq_left hl, List.take_length, List.take_of_length_le hl]
  · rw [Nat.min_eq_right (by omega)]
 have hf : (l.flatMap Oq.cells).take (min l.length n * 5) = dOp.flat (l.take n) := by rw [← ht]; exact dOp.flat_take l _
 have hlen : (l.take n).length = min l.length n := by rw [List.length_take, Nat.min_comm]
 rw [hf] at e3
 obtain ⟨w, h', fp', a1, a2, a3⟩ := Sl.append (Sl.nil (h := h) (es := 5)) (bytes := 64) (z := zOp) (new := dOp.flat (l.take n)) rfl (by decide) (by decide) e2 e3 (by rw [dOp.flat_len, hlen]; rfl) (dOp.flat_one _) (by omega)
 simp only [zOp] at a1
 rw [a1, kP_some]
 refine s.alloc (plOps w (l.take n)) a3 ?_
 rw [Nat.zero_add, List.nil_append, ← hlen] at a2
 exact a2
variable {id : IdM} {ops : List Oq} {now : Int}
end Go.Abs
namespace Go.Abs
open Go Go.Proofs
variable {h : AHeap} {v : V}
def dStr : EL ByteArray := ⟨1, fun s => [str s], fun _ => rfl, fun _ => rfl, by decide⟩
theorem dStr_flat : ∀ l : List ByteArray, dStr.flat l = l.map str
 | [] => rfl
 | a :: l => by rw [EL.flat_cons, dStr_flat l]; rfl
theorem ts_sle {fp : List Nat} {l : List ByteArray} : Ts h fp v l ↔ SlE dStr h fp v l := by
 unfold Ts SlE
 rw [dStr_flat]
 exact Iff.rfl
/-! ### Plain -/
end Go.Abs
namespace Go.Abs
open Go
variable {E : FE} {F : Fr} {h : AHeap} {L : List Pl} {k : Nat} {p q : V}
theorem Sep.memP {A : Pl} (s : Sep F h L) (hm : A ∈ L) : ∃ f, A.P h f := by
 obtain ⟨l1, l2, rfl⟩ := List.append_of_mem hm
 obtain ⟨f, q, _⟩ := (s.perm List.perm_middle).head
 exact ⟨f, q⟩
theorem Sep.lenM {κ α : Type} [DecidableEq κ] {D : KD κ} {A : κ → V → α → Pl} {m : Nat} {l : List (κ × α)} (s : Sep F h (plGM D A m l :: L)) : lenD .map (.map (some m)) h = some (i64 (l.length : Nat)) := by
 obtain ⟨t, clk, q, s1⟩ := s.openM
 have g := s1.mapGet
 have e : t.length = l.length := by have := q.perm.length_eq; simpa [absE] using this
 simp only [lenD, g, List.length_map, e]
end Go.Abs
namespace Go.Abs
open Go Go.Proofs
variable {E : FE} {F : Fr} {h : AHeap} {L : List Pl}
def plI64s (v : V) (l : List Int) : Pl := ⟨fun h f => SlE dInt h f v l, fun _ _ q => q.lt, fun _ _ _ q hl hs => SlE.same q hl hs⟩
def clockV (now : Int) (ns : List Int) (ts : List ByteArray) : Int := match ns, ts with
 | [n], [] => if n ≤ 1099511627776 then max now n else now
 | _, _ => now
end Go.Abs
namespace Go.Abs
open Go Go.Proofs
variable {E : FE} {F : Fr} {h : AHeap} {L : List Pl}
def markS (p : Nat × Nat) (c : UInt8) : Nat × Nat := ((p.1 + c.toNat) % 65521, (p.2 + (p.1 + c.toNat) % 65521) % 65521)
def markN (s : ByteArray) : Nat := (s.data.toList.foldl markS (1, 0)).2 * 65536 + (s.data.toList.foldl markS (1, 0)).1
theorem mark_lt (l : List UInt8) : ∀ (p : Nat × Nat), p.1 < 65521 → p.2 < 65521 → (l.foldl markS p).1 < 65521 ∧ (l.foldl markS p).2 < 65521 := by
 induction l with
 | nil => exact fun p h1 h2 => ⟨h1, h2⟩
 | cons c l ih => exact fun p _ _ => ih _ (Nat.mod_lt _ (by decide)) (Nat.mod_lt _ (by decide))
theorem wrap32 {x : Int} (h0 : 0 ≤ x) (h1 : x < 4294967296) : IntKind.wrap .u32 x = x := by
 simp only [IntKind.wrap, IntKind.bits, IntKind.signed]
 have : x % 4294967296 = x := Int.emod_eq_of_lt h0 h1
 first | simpa using this | (simp; omega)
theorem tmod_nat (a b : Nat) : ((a : Int)).tmod (b : Int) = ((a % b : Nat) : Int) := by
 rw [Int.tmod_eq_emod_of_nonneg (by omega)]
 exact (Int.natCast_emod a b).symm
theorem mark_bytes {bx c : Nat} {l : List UInt8} {k : BK} (hg : h.get bx = some (.cells (l.map fun x => .int .u8 x.toNat) 1 k)) (hl : l.length ≤ 1000000000) :
 cl (Go.Abs.F.mark_Of E) [.slice (some ⟨bx, 0, none⟩) l.length c] h fun r h' => h' = h ∧ r = .int .u32 (((l.foldl markS (1, 0)).2 * 65536 + (l.foldl markS (1, 0)).1 : Nat) : Int) := by
 refine cl_of ?_
 simp only [Go.Abs.F.mark_Of]
 refine cl_of ?_
 have ln : lenD .slice (.slice (some ⟨bx, 0, none⟩) l.length c) h = some (i64 (l.length : Nat)) := rfl
 have c1 : binD .bad .rem true (.int .u32 1) (.int .u32 65536) h = some (.int .u32 1) := by rfl
 have c2 : binD .bad .rem true (.int .u32 1) (.int .u32 65521) h = some (.int .u32 1) := by rfl
 have c3 : binD .bad .quo true (.int .u32 1) (.int .u32 65536) h = some (.int .u32 0) := by rfl
 have c4 : binD .bad .rem true (.int .u32 0) (.int .u32 65521) h = some (.int .u32 0) := by rfl
 simp only [Go.Abs.F.mark_Add, c1, c2, c3, c4, kv_some, ln]
 refine ⟨fun n vs h' => h' = h ∧ ∃ i : Nat, i ≤ l.length ∧ n = l.length - i ∧ vs = [.int .u32 (((l.take i).foldl markS (1, 0)).1 : Nat), .int .u32 (((l.take i).foldl markS (1, 0)).2 : Nat), i64 i], l.length, ⟨rfl, 0, by omega, by omega, rfl⟩, ?_⟩
 rintro n e h1 ⟨rfl, i, hi, rfl, he⟩
 simp only [List.cons.injEq, and_true] at he
 obtain ⟨he1, he2, he3⟩ := he
 obtain ⟨b1, b2⟩ := mark_lt (l.take i) (1, 0) (by decide) (by decide)
 simp only [he1, he2, he3, bin_lss, kv_some, ifV_bool, decide_eq_true_eq]
 by_cases hx : i < l.length
 · rw [if_pos (show ((i : Nat) : Int) < (l.length : Nat) by omega)]
   have hg2 : l[i]? = some l[i] := List.getElem?_eq_getElem hx
   have e1 : indexAddrD (.slice 1) (.slice (some ⟨bx, 0, none⟩) l.length c) (i64 i) = some (ptr bx i) := by
    have b3 : (0 : Int) ≤ (i : Int) ∧ (i : Int) < (l.length : Nat) := by omega
    simp only [indexAddrD, if_pos b3, Int.toNat_natCast, Nat.zero_add, Nat.mul_one]
   have e2 : ldD .one (ptr bx i) h1 = some (.int .u8 (l[i]).toNat) := by
    rw [ld_one, rd_of hg i, List.getElem?_map, hg2]
    rfl
   have hstep : (l.take (i + 1)).foldl markS (1, 0) = markS ((l.take i).foldl markS (1, 0)) l[i] := by
    rw [List.take_add_one, hg2, Option.toList_some, List.foldl_append]
    rfl
   generalize (l.take i).foldl markS (1, 0) = p at b1 b2 hstep ⊢
   have hc := (l[i]).toNat_lt
   generalize l[i] = ch at e2 hstep hc ⊢
   rw [e1, kv_some, e2, kv_some]
   have e3 : (convD (.int .u32) (.int .u8 (ch.toNat : Nat)) h1).map (·.1) = some (.int .u32 (ch.toNat : Nat)) := by
    simp only [convD, Option.map_some]
    rw [wrap32 (by omega) (by omega)]
   rw [e3, kv_some]
   have e4 : IntKind.wrap .u32 ((p.1 : Nat) + (ch.toNat : Nat) : Int) = ((p.1 + ch.toNat : Nat) : Int) := by
    rw [wrap32 (by omega) (by omega)]
    omega
   simp only [bin_add, e4, kv_some, bin_rem]
   rw [if_neg (by decide), kv_some]
   have e5 : ((p.1 + ch.toNat : Nat) : Int).tmod 65521 = (((p.1 + ch.toNat) % 65521 : Nat) : Int) := tmod_nat _ 65521
   rw [e5]
   have hlt := Nat.mod_lt (p.1 + ch.toNat) (show 65521 > 0 by decide)
   have e6 : IntKind.wrap .u32 ((p.2 : Nat) + (((p.1 + ch.toNat) % 65521 : Nat) : Int) : Int) = ((p.2 + (p.1 + ch.toNat) % 65521 : Nat) : Int) := by
    rw [wrap32 (by omega) (by omega)]
    omega
   simp only [bin_add, e6, kv_some, bin_rem]
   rw [if_neg (by decide), kv_some]
   have e7 : ((p.2 + (p.1 + ch.toNat) % 65521 : Nat) : Int).tmod 65521 = (((p.2 + (p.1 + ch.toNat) % 65521) % 65521 : Nat) : Int) := tmod_nat _ 65521
   have e8 : IntKind.wrap .i64 ((i : Nat) + 1 : Int) = ((i + 1 : Nat) : Int) := by
    have := add_i64 (h := h1) (k := .bad) (c := true) (i : Nat) 1 (by omega) (by omega)
    simpa using this
   rw [e7, e8]
   exact ⟨l.length - (i + 1), by omega, trivial, i + 1, by omega, rfl, by rw [hstep]; rfl⟩
 · rw [if_neg (show ¬ ((i : Nat) : Int) < (l.length : Nat) by omega)]
   have hl : l.take i = l := List.take_of_length_le (by omega)
   rw [hl] at b1 b2 ⊢
   generalize l.foldl markS (1, 0) = p at b1 b2 ⊢
   have e4 : IntKind.wrap .u32 ((p.2 : Nat) * 65536 : Int) = ((p.2 * 65536 : Nat) : Int) := by
    rw [wrap32 (by omega) (by omega)]
    omega
   have e5 : IntKind.wrap .u32 (((p.2 * 65536 : Nat) : Int) + (p.1 : Nat)) = ((p.2 * 65536 + p.1 : Nat) : Int) := by
    rw [wrap32 (by omega) (by omega)]
    omega
   simp only [bin_mul, e4, kv_some, bin_add, e5]
   exact ⟨trivial, trivial⟩
theorem name_Shard (s : ByteArray) (hs : s.size ≤ 1000000000) (n : Nat) (hn : 1 ≤ n ∧ n ≤ 1000) : cl (Go.Abs.F.name_Shard E) [str s, i64 n] h fun r h' => r = i64 ((markN s % n : Nat) : Int) ∧ Mod h [] h' [] := by
 refine cl_of ?_
 simp only [Go.Abs.F.name_Shard]
 refine cl_of ?_
 have hn1 : ¬ (n : Int) < 1 := by omega
 have hb : convD .toBytes (str s) h = some (.slice (some ⟨h.next, 0, none⟩) s.size (2 * s.size + 1), h.new (.cells (s.data.toList.map fun x => .int .u8 x.toNat) 1 .str)) := rfl
 simp only [Go.Abs.F.mark_Shards, bin_lss, kv_some, hn1, decide_false, ifV_bool, Bool.false_eq_true, if_false, hb, kP_some]
 have hm : Mod h [] (h.new (.cells (s.data.toList.map fun x => .int .u8 x.toNat) 1 .str)) [] := ⟨by simp, fun x hx _ => by
  have : x ≠ h.next := by omega
  simp [this], by simp, by simp⟩
 have hg : (h.new (.cells (s.data.toList.map fun x => (.int .u8 x.toNat : V)) 1 .str)).get h.next = some (.cells (s.data.toList.map fun x => .int .u8 x.toNat) 1 .str) := by simp
 have hlen : s.data.toList.length = s.size := by rw [Array.length_toList]; rfl
 have hmk := mark_bytes (E := E) (c := 2 * s.size + 1) hg (by omega)
 rw [hlen] at hmk
 refine cl_then hmk ?_
 rintro r h1 ⟨rfl, rfl⟩
 have hN : (s.data.toList.foldl markS (1, 0)).2 * 65536 + (s.data.toList.foldl markS (1, 0)).1 = markN s := rfl
 rw [hN]
 have hlt : markN s < 4294967296 := by
  have := mark_lt s.data.toList (1, 0) (by decide) (by decide)
  unfold markN
  omega
 have w64 : ∀ x : Nat, x < 4294967296 → IntKind.wrap .u64 (x : Int) = x := fun x hx => by simp [IntKind.wrap, IntKind.bits, IntKind.signed]; omega
 have wi64 : ∀ x : Nat, x < 4294967296 → IntKind.wrap .i64 (x : Int) = x := fun x hx => by
  have := add_i64 (h := h) (k := .bad) (c := true) (x : Nat) 0 (by omega) (by omega)
  simpa using this
 simp only [convD, Option.map_some, kv_some, w64 _ hlt, w64 n (by omega), bin_rem]
 rw [if_neg (by omega), kv_some, tmod_nat]
 have hr : markN s % n < 4294967296 := Nat.lt_of_le_of_lt (Nat.mod_le _ _) hlt
 simp only [Option.map_some, wi64 _ hr, kv_some]
 exact ⟨trivial, hm⟩
def clientB (id : IdM) : Bool := decide (0 ≤ id.client) && decide (id.client ≤ 8) && decide (1 ≤ id.seq) && decide (id.seq ≤ 1099511627776)
theorem op_Client_ok (id : IdM) (s : Sep F h L) : cl (Go.Abs.F.op_Client E) [id.agg] h fun r h' => r = .bool (clientB id) ∧ Sep F h' L := by
 refine cl_of ?_
 simp only [Go.Abs.F.op_Client, new2, kP_some]
 have s1 := s.box (cId id) 2
 generalize h.new (.cells (cId id) 2 .rw) = h1 at s1 ⊢
 generalize h.next = bi at s1 ⊢
 have r0 : h1.rd bi 0 = some (i64 id.client) := by rw [rd_of s1.get 0]; rfl
 have r1 : h1.rd bi 1 = some (i64 id.seq) := by rw [rd_of s1.get 1]; rfl
 simp only [fieldAddr_ptr, kv_some, ld_one, Nat.zero_add, r0, bin_geq, gdV_bool, bin_leq, r1]
 unfold clientB
 by_cases a1 : 0 ≤ id.client
 case neg => simp [a1, gdV_bool, pickV_bool, r0, r1]; exact s1.drop
 by_cases a2 : id.client ≤ 8
 case neg => simp [a1, a2, gdV_bool, pickV_bool, r0, r1]; exact s1.drop
 by_cases a3 : 1 ≤ id.seq
 case neg => simp [a1, a2, a3, gdV_bool, pickV_bool, r0, r1]; exact s1.drop
 simp [a1, a2, a3, gdV_bool, pickV_bool, r0, r1]; exact s1.drop
end Go.Abs
namespace Go.Abs
open Go Go.Proofs
variable {E : FE} {F : Fr} {h : AHeap} {L : List Pl}
abbrev Tri := Option Addr × Nat × Nat
def mkS (t : Tri) : V := .slice t.1 t.2.1 t.2.2
def dSl : EL Tri := ⟨1, fun t => [mkS t], fun _ => rfl, fun _ => rfl, by decide⟩
def plSls (v : V) (l : List Tri) : Pl := ⟨fun h f => SlE dSl h f v l, fun _ _ q => q.lt, fun _ _ _ q hl hs => SlE.same q hl hs⟩
def pzI (e : Tri × List Int) : Pl := plI64s (mkS e.1) e.2
def plPts (v : V) (ps : List (List Int)) : Pl := plEx fun (qs : List (Tri × List Int)) => plAll (plPure (qs.map (·.2) = ps) :: plSls v (qs.map (·.1)) :: qs.map pzI)
theorem Sep.openPts {v : V} {ps : List (List Int)} (s : Sep F h (plPts v ps :: L)) : ∃ qs : List (Tri × List Int), qs.map (·.2) = ps ∧ Sep F h (plSls v (qs.map (·.1)) :: (qs.map pzI ++ L)) := by
 obtain ⟨qs, s⟩ := s.ex
 have s1 := s.all
 obtain ⟨e, s2⟩ := Sep.pure (L := plSls v (qs.map (·.1)) :: (qs.map pzI ++ L)) s1
 exact ⟨qs, e, s2⟩
theorem Sep.closePts {v : V} {qs : List (Tri × List Int)} (s : Sep F h (plSls v (qs.map (·.1)) :: (qs.map pzI ++ L))) : Sep F h (plPts v (qs.map (·.2)) :: L) :=
 Sep.mkEx (A := fun (q : List (Tri × List Int)) => plAll (plPure (q.map (·.2) = qs.map (·.2)) :: plSls v (q.map (·.1)) :: q.map pzI)) qs
  (Sep.mkAll (L' := plPure (qs.map (·.2) = qs.map (·.2)) :: plSls v (qs.map (·.1)) :: qs.map pzI) (Sep.mkPure rfl s))
theorem append_int {v : V} {fp : List Nat} {l : List Int} (s : SlE dInt h fp v l) (hsz : l.length ≤ 1000000) (x : Int) :
 ∃ h1, buildSliceD (some (1, [(.int .i64 0)])) 1 [(0, i64 x)] h = some (.slice (some ⟨h.next, 0, none⟩) 1 2, h1) ∧
  ∃ t h2 fp', appendD (some (1, 8, [(.int .i64 0)])) v (.slice (some ⟨h.next, 0, none⟩) 1 2) h1 = some (mkS t, h2) ∧ SlE dInt h2 fp' (mkS t) (l ++ [x]) ∧ Mod h fp h2 fp' := by
 refine ⟨h.new (.cells [i64 x] 1 .rw), rfl, ?_⟩
 have s1 : SlE dInt (h.new (.cells [i64 x] 1 .rw)) fp v l := SlE.same s (by simp) fun y hy => by
  have := s.lt y hy
  have : y ≠ h.next := by omega
  simp [this]
 obtain ⟨v', h', fl', a1, a2, a3⟩ := Sl.append s1 (x := .slice (some ⟨h.next, 0, none⟩) 1 2) (k := 1) (bytes := 8) (z := [.int .i64 0]) (new := [i64 x]) rfl (by decide) (by decide) rfl
  (fun _ => by simp [aSrc, sliceCells, AHeap.rdN, dInt]) rfl rfl (by omega)
 have a2' : SlE dInt h' fl' v' (l ++ [x]) := by
  unfold SlE
  rw [List.length_append, dInt.flat_app]
  exact a2
 obtain ⟨t, rfl⟩ : ∃ t, v' = mkS t := by
  obtain ⟨_, ⟨rfl, _, _⟩ | ⟨b, c, all, rfl, _⟩⟩ := a2
  · exact ⟨(none, 0, 0), rfl⟩
  · exact ⟨(_, _, _), rfl⟩
 exact ⟨t, h', fl', a1, a2', (Mod.newBox (h := h) (fp := fp) s.lt).trans a3⟩
def addP (ps : List (List Int)) (s : Nat) (i : Nat) : List (List Int) := ps.set s (ps.getD s [] ++ [(i : Int)])
def partsF (l : List Oq) (n : Nat) : List (List Int) := l.zipIdx.foldl (fun ps e => addP ps (markN e.1.space % n) e.2) (List.replicate n [])
theorem parts_step (l : List Oq) (n i : Nat) (hi : i < l.length) : partsF (l.take (i + 1)) n = addP (partsF (l.take i) n) (markN l[i].space % n) i := by
 unfold partsF
 rw [List.take_add_one, List.getElem?_eq_getElem hi, Option.toList_some, List.zipIdx_append, List.foldl_append]
 simp [List.length_take, Nat.min_eq_left (Nat.le_of_lt hi)]
theorem foldl_len (n : Nat) (l : List (Oq × Nat)) : ∀ ps : List (List Int), (l.foldl (fun ps e => addP ps (markN e.1.space % n) e.2) ps).length = ps.length := by
 induction l with
 | nil => exact fun _ => rfl
 | cons a l ih => exact fun ps => by rw [List.foldl_cons, ih, addP, List.length_set]
theorem parts_len (l : List Oq) (n : Nat) : (partsF l n).length = n := by
 unfold partsF
 rw [foldl_len, List.length_replicate]
theorem parts_small (l : List (Oq × Nat)) (n : Nat) : ∀ (ps : List (List Int)) (k : Nat), (∀ p ∈ ps, p.length ≤ k) → ∀ p ∈ l.foldl (fun ps e => addP ps (markN e.1.space % n) e.2) ps, p.length ≤ k + l.length := by
 induction l with
 | nil => exact fun ps k h p hp => h p hp
 | cons a l ih =>
  intro ps k hps p hp
  rw [List.foldl_cons] at hp
  have := ih _ (k + 1) (fun q hq => by
   rcases List.mem_or_eq_of_mem_set hq with hq | rfl
   · have := hps q hq; omega
   · rw [List.length_append, List.length_singleton]
     have : (ps.getD (markN a.1.space % n) []).length ≤ k := by
      rw [List.getD_eq_getElem?_getD]
      cases hg : ps[markN a.1.space % n]? with
      | none => simp
      | some q => exact hps q (List.mem_of_getElem? hg)
     omega) p hp
  rw [List.length_cons]
  omega
end Go.Abs
namespace Go.Abs
open Go Go.Proofs
variable {E : FE} {F : Fr} {h : AHeap} {L : List Pl}
theorem Sep.noInts (s : Sep F h L) : Sep F h (plI64s (mkS (none, 0, 0)) [] :: L) :=
 s.alloc (a' := []) (plI64s (mkS (none, 0, 0)) []) (Mod.refl (by simp)) Sl.nil
theorem parts_make {n : Nat} (hn : 1 ≤ n ∧ n ≤ 3) (s : Sep F h L) {K : V → AHeap → Prop} (hK : ∀ r h', Sep F h' (plPts r (List.replicate n []) :: L) → lenD .slice r h' = some (i64 n) → K r h') :
 kP (makeSliceD (some (1, 24, [(.slice none 0 0)])) (i64 n) (i64 n) h) K := by
 have gen : ∀ qs : List (Tri × List Int), qs ≠ [] → (∀ q ∈ qs, q = ((none, 0, 0), [])) → Sep F (h.new (.cells (dSl.flat (qs.map (·.1))) 1 .rw)) (plPts (.slice (some ⟨h.next, 0, none⟩) qs.length (2 * qs.length)) (qs.map (·.2)) :: L) := by
  intro qs hq hall
  refine Sep.closePts ?_
  have hpz : ∀ (l : List (Tri × List Int)), (∀ q ∈ l, q = ((none, 0, 0), [])) → ∀ {g : AHeap}, Sep F g L → Sep F g (l.map pzI ++ L) := by
   intro l
   induction l with
   | nil => exact fun _ _ s => s
   | cons a l ih =>
    intro h1 g s
    rw [h1 a (by simp)]
    exact Sep.noInts (ih (fun q hq => h1 q (by simp [hq])) s)
  have s1 := hpz qs hall s
  have s2 := s1.alloc (a' := [h.next]) (h' := h.new (.cells (dSl.flat (qs.map fun q : Tri × List Int => q.1)) 1 .rw)) (plSls (.slice (some ⟨h.next, 0, none⟩) (qs.map fun q : Tri × List Int => q.1).length (2 * (qs.map fun q : Tri × List Int => q.1).length)) (qs.map fun q : Tri × List Int => q.1)) ⟨by simp, fun x hx _ => by
   have : x ≠ h.next := by omega
   simp [this], by simp, by simp⟩ (SlE.lit dSl h (qs.map fun q : Tri × List Int => q.1) (by simpa using hq))
  rw [List.length_map] at s2
  exact s2
 have h3 : n = 1 ∨ n = 2 ∨ n = 3 := by omega
 rcases h3 with rfl | rfl | rfl
 · exact kP_of (v := .slice (some ⟨h.next, 0, none⟩) 1 2) (g := h.new (.cells (dSl.flat [(none, 0, 0)]) 1 .rw)) rfl (hK _ _ (gen [((none, 0, 0), [])] (by simp) (by simp)) rfl)
 · exact kP_of (v := .slice (some ⟨h.next, 0, none⟩) 2 4) (g := h.new (.cells (dSl.flat [(none, 0, 0), (none, 0, 0)]) 1 .rw)) rfl (hK _ _ (gen [((none, 0, 0), []), ((none, 0, 0), [])] (by simp) (by simp)) rfl)
 · exact kP_of (v := .slice (some ⟨h.next, 0, none⟩) 3 6) (g := h.new (.cells (dSl.flat [(none, 0, 0), (none, 0, 0), (none, 0, 0)]) 1 .rw)) rfl (hK _ _ (gen [((none, 0, 0), []), ((none, 0, 0), []), ((none, 0, 0), [])] (by simp) (by simp)) rfl)
theorem erase_perm {α : Type} (l : List α) {k : Nat} (hk : k < l.length) : l.Perm (l[k] :: l.eraseIdx k) := by
 rw [List.eraseIdx_eq_take_drop_succ]
 have e : l = l.take k ++ l[k] :: l.drop (k + 1) := by rw [← List.drop_eq_getElem_cons hk, List.take_append_drop]
 have p : (l.take k ++ l[k] :: l.drop (k + 1)).Perm (l[k] :: (l.take k ++ l.drop (k + 1))) := List.perm_middle
 exact (List.Perm.of_eq e).trans p
theorem pz_perm {qs : List (Tri × List Int)} {k : Nat} (hk : k < qs.length) : (qs.map pzI).Perm (pzI qs[k] :: (qs.eraseIdx k).map pzI) :=
 (erase_perm qs hk).map pzI
theorem pz_perm' {qs : List (Tri × List Int)} {k : Nat} (hk : k < qs.length) (x : Tri × List Int) : ((qs.set k x).map pzI).Perm (pzI x :: (qs.eraseIdx k).map pzI) := by
 have h1 : k < (qs.set k x).length := by rw [List.length_set]; exact hk
 have := pz_perm h1
 rw [List.getElem_set_self, List.eraseIdx_set_eq] at this
 exact this
theorem parts_add {v : V} {ps : List (List Int)} {k : Nat} (hk : k < ps.length) (hsz : ∀ p ∈ ps, p.length ≤ 1000000) (i : Nat) (s : Sep F h (plPts v ps :: L)) {K : AHeap → Prop}
 (hK : ∀ h', Sep F h' (plPts v (addP ps k i) :: L) → K h') :
kv (indexAddrD (.slice 1) v (i64 (k : Nat))) fun v32_18 =>
kv (ldD .one v32_18 h) fun v33_19 =>
kP (buildSliceD (some (1, [(.int .i64 0)])) 1 [(0, (i64 (i : Nat)))] h) fun v35_20 h =>
kP (appendD (some (1, 8, [(.int .i64 0)])) v33_19 v35_20 h) fun v36_21 h =>
kv (indexAddrD (.slice 1) v (i64 (k : Nat))) fun v37_22 =>
kH (stD (some 1) v37_22 v36_21 h) fun _ h => K h := by
 obtain ⟨qs, rfl, s1⟩ := s.openPts
 rw [List.length_map] at hk
 obtain ⟨f0, q0, _⟩ := s1.head
 have q0 : SlE dSl h f0 v (qs.map (·.1)) := q0
 have hx : (qs.map (·.1))[k]? = some (qs[k]).1 := by rw [List.getElem?_map, List.getElem?_eq_getElem hk]; rfl
 obtain ⟨b, _, a1, _, a3⟩ := q0.at hx
 have a1 : indexAddrD (.slice 1) v (i64 (k : Nat)) = some (ptr b (k * 1)) := a1
 have a3 : h.rd b (k * 1) = some (mkS (qs[k]).1) := a3 0 (by decide)
 rw [a1, kv_some, ld_one, a3, kv_some]
 have hsm : (qs[k]).2.length ≤ 1000000 := hsz _ (List.mem_map.2 ⟨qs[k], List.getElem_mem hk, rfl⟩)
 have s2 : Sep F h (pzI qs[k] :: plSls v (qs.map (·.1)) :: ((qs.eraseIdx k).map pzI ++ L)) :=
  s1.perm (((pz_perm hk).append_right L |>.cons _).trans (List.Perm.swap _ _ _))
 obtain ⟨f1, q1, kk1⟩ := s2.head
 have q1 : SlE dInt h f1 (mkS (qs[k]).1) (qs[k]).2 := q1
 obtain ⟨h1, e1, t, h2, f2, e2, q2, m2⟩ := append_int q1 hsm (i : Int)
 rw [e1, kP_some, e2, kP_some, kv_some]
 have s3 := kk1 (pzI (t, (qs[k]).2 ++ [(i : Int)])) m2 q2
 obtain ⟨f4, q4, kk4⟩ := s3.up1.head
 have q4 : SlE dSl h2 f4 v (qs.map (·.1)) := q4
 obtain ⟨b', h4, c1, c2, q5, m5⟩ := q4.st (i := k) (by rw [List.length_map]; exact hk) t
 have c1 : indexAddrD (.slice 1) v (i64 (k : Nat)) = some (ptr b' (k * 1)) := c1
 rw [a1] at c1
 cases c1
 have c2' : stD (some 1) (ptr b (k * 1)) (mkS t) h2 = some h4 := by
  rw [← c2]
  rfl
 rw [c2', kH_some]
 have s5 := kk4 (plSls v ((qs.map fun q : Tri × List Int => q.1).set k t)) m5 q5
 have e5 : (qs.map fun q : Tri × List Int => q.1).set k t = (qs.set k (t, (qs[k]).2 ++ [(i : Int)])).map (·.1) := by rw [List.map_set]
 rw [e5] at s5
 have s6 : Sep F h4 (plSls v ((qs.set k (t, (qs[k]).2 ++ [(i : Int)])).map (·.1)) :: ((qs.set k (t, (qs[k]).2 ++ [(i : Int)])).map pzI ++ L)) :=
  s5.perm (((pz_perm' hk (t, (qs[k]).2 ++ [(i : Int)])).append_right L).symm.cons _)
 have s7 := Sep.closePts s6
 have e7 : (qs.set k (t, (qs[k]).2 ++ [(i : Int)])).map (·.2) = addP (qs.map (·.2)) k i := by
  unfold addP
  rw [List.map_set, List.getD_eq_getElem?_getD, List.getElem?_map, List.getElem?_eq_getElem hk]
  rfl
 rw [e7] at s7
 exact hK _ s7
theorem op_Parts_ok {v : V} {l : List Oq} {n : Nat} (hn : 1 ≤ n ∧ n ≤ 3) (hl : l.length ≤ 100000) (hz : ∀ o ∈ l, o.space.size ≤ 1000000000) (s : Sep F h (plOps v l :: L)) :
 cl (Go.Abs.F.op_Parts E) [v, i64 n] h fun r h' => Sep F h' (plPts r (partsF l n) :: plOps v l :: L) := by
 refine cl_of ?_
 have h1 : ¬ (n : Int) < 1 := by omega
 have h3 : ¬ (n : Int) > 3 := by omega
 simp only [Go.Abs.F.op_Parts, bin_lss, bin_gtr, kv_some, gdV_bool, h1, h3, decide_false, if_true, pickV_bool, Bool.false_eq_true, if_false, ifV_bool]
 refine parts_make hn s fun w h1 s1 _ => ?_
 obtain ⟨f0, q0, _⟩ := s1.up1.head
 have q0 : SlE dOp h1 f0 v l := q0
 rw [q0.len, kv_some]
 refine ⟨fun m vs h' => ∃ i : Nat, vs = [i64 i] ∧ m = l.length - i ∧ i ≤ l.length ∧ Sep F h' (plPts w (partsF (l.take i) n) :: plOps v l :: L), l.length, ⟨0, rfl, by omega, by omega, by simpa [partsF] using s1⟩, ?_⟩
 rintro m e h2 ⟨i, he, rfl, hi, s2⟩
 simp only [List.cons.injEq, and_true] at he
 simp only [he, bin_lss, kv_some, ifV_bool, decide_eq_true_eq]
 by_cases hx : i < l.length
 case neg =>
  rw [if_neg (show ¬ ((i : Nat) : Int) < (l.length : Nat) by omega)]
  rw [List.take_of_length_le (by omega)] at s2
  exact s2
 rw [if_pos (show ((i : Nat) : Int) < (l.length : Nat) by omega)]
 obtain ⟨f1, q1, _⟩ := s2.up1.head
 have q1 : SlE dOp h2 f1 v l := q1
 have hg : l[i]? = some l[i] := List.getElem?_eq_getElem hx
 obtain ⟨c, i1, i2⟩ := q1.ld hg
 have i1 : indexAddrD (.slice 5) v (i64 (i : Nat)) = _ := i1
 have i2 : ldD (.agg 5) _ _ = some (l[i]).agg := i2
 rw [i1, kv_some, i2, kv_some, newO0, kP_some]
 have s3 := s2.box (⟨0, ⟨#[]⟩, ⟨#[]⟩, ⟨#[]⟩, 0⟩ : Oq).cells 5
 rw [st5 s3.get, kH_some]
 have s4 := s3.write (cs' := (l[i]).cells)
 generalize AHeap.put _ _ _ = h4 at s4 ⊢
 generalize h2.next = bx at s4 ⊢
 have r1 : h4.rd bx 1 = some (str (l[i]).space) := by rw [rd_of s4.get 1]; rfl
 simp only [fieldAddr_ptr, kv_some, ld_one, Nat.zero_add, r1]
 refine cl_then (name_Shard (l[i]).space (hz _ (List.getElem_mem hx)) n (by omega)) ?_
 rintro r h5 ⟨rfl, m5⟩
 have s5 := (s4.skip m5).drop
 have hk : markN (l[i]).space % n < (partsF (l.take i) n).length := by rw [parts_len]; exact Nat.mod_lt _ (by omega)
 refine parts_add hk (fun p hp => ?_) i s5 fun h6 s6 => ?_
 · have := parts_small (l.take i).zipIdx n (List.replicate n []) 0 (fun p hp => by rw [(List.mem_replicate.1 hp).2]; simp) p hp
   rw [List.length_zipIdx, List.length_take] at this
   omega
 · rw [← parts_step l n i hx] at s6
   rw [add_i64 _ 1 (by omega) (by omega), kv_some]
   exact ⟨l.length - (i + 1), by omega, i + 1, by simp, rfl, by omega, s6⟩
end Go.Abs
namespace Go.Abs
open Go
def SlO (h : AHeap) (fp : List Nat) (v : V) (es n : Nat) (cs : List V) : Prop :=
 cs.length = n * es ∧ ((v = .slice none 0 0 ∧ n = 0 ∧ fp = []) ∨
  ∃ b o c all k, v = .slice (some ⟨b, o, none⟩) n c ∧ fp = [b] ∧ b < h.next ∧ n ≤ c / 2 ∧ h.get b = some (.cells all es k) ∧ k ≠ .ro ∧ o + c / 2 * es ≤ all.length ∧ (all.drop o).take (n * es) = cs)
variable {h : AHeap} {fp : List Nat} {v : V} {es n : Nat} {cs : List V}
theorem Sl.toO (s : Sl h fp v es n cs) : SlO h fp v es n cs := by
 obtain ⟨h0, ⟨rfl, rfl, rfl⟩ | ⟨b, c, all, rfl, rfl, hb, h1, h2, h3, h4⟩⟩ := s
 · exact ⟨h0, .inl ⟨rfl, rfl, rfl⟩⟩
 · exact ⟨h0, .inr ⟨b, 0, c, all, .rw, rfl, rfl, hb, h1, h2, by decide, by omega, by simpa using h4⟩⟩
theorem SlO.lt (s : SlO h fp v es n cs) : ∀ x ∈ fp, x < h.next := by
 obtain ⟨_, ⟨rfl, rfl, rfl⟩ | ⟨b, o, c, all, k, rfl, rfl, hb, _⟩⟩ := s
 · simp
 · simpa using hb
theorem SlO.same {h' : AHeap} (s : SlO h fp v es n cs) (hl : h.next ≤ h'.next) (hs : ∀ x ∈ fp, h'.get x = h.get x) : SlO h' fp v es n cs := by
 obtain ⟨h0, ⟨rfl, rfl, rfl⟩ | ⟨b, o, c, all, k, rfl, rfl, hb, h1, h2, h3⟩⟩ := s
 · exact ⟨h0, .inl ⟨rfl, rfl, rfl⟩⟩
 · exact ⟨h0, .inr ⟨b, o, c, all, k, rfl, rfl, by omega, h1, by rw [hs b (by simp), h2], h3⟩⟩
theorem SlO.nil : SlO h [] (.slice none 0 0) es 0 [] := ⟨by simp, .inl ⟨rfl, rfl, rfl⟩⟩
theorem SlO.len (s : SlO h fp v es n cs) : lenD .slice v h = some (i64 n) := by
 obtain ⟨h0, ⟨rfl, rfl, rfl⟩ | ⟨b, o, c, all, k, rfl, rfl, hb, _⟩⟩ := s <;> rfl
theorem SlO.post (s : SlO h fp v es n cs) {k : Nat} {t : IntKind} (hk : k = 0 ∨ k < n) : ∃ v', sliceD (.slice es) v (some (.int t k)) none none h = some v' ∧ SlO h fp v' es (n - k) (cs.drop (k * es)) := by
 obtain ⟨h0, ⟨rfl, rfl, rfl⟩ | ⟨b, o, c, all, bk, rfl, rfl, hb, h1, h2, h5, h3, h4⟩⟩ := s
 · obtain rfl : k = 0 := by omega
   have : cs = [] := by simpa using h0
   subst this
   exact ⟨.slice none 0 0, by simp [sliceD, aBoundO, aBound], by simp, .inl ⟨rfl, rfl, rfl⟩⟩
 · have hkn : k ≤ n := by omega
   have hsl : sliceD (.slice es) (.slice (some ⟨b, o, none⟩) n c) (some (.int t k)) none none h =
    if k = 0 then some (.slice (some ⟨b, o, none⟩) n c) else if k < c / 2 then some (.slice (some ⟨b, o + k * es, none⟩) (n - k) (c - 2 * k))
    else if c % 2 = 0 then some (.slice (some ⟨b, o, none⟩) (n - k) 0) else some (.slice none 0 1) := by
    simp [sliceD, aBoundO, aBound, h2, hkn]
   rw [hsl]
   by_cases hk0 : k = 0
   · subst hk0
     exact ⟨_, if_pos rfl, by simpa using h0, .inr ⟨b, o, c, all, bk, rfl, rfl, hb, by omega, h2, h5, h3, by simpa using h4⟩⟩
   · have hk1 : k < c / 2 := by omega
     rw [if_neg hk0, if_pos hk1]
     have e1 : (c - 2 * k) / 2 = c / 2 - k := by omega
     have e2 : k * es + (c / 2 - k) * es = c / 2 * es := by rw [← Nat.add_mul, show k + (c / 2 - k) = c / 2 by omega]
     have e3 : k * es + (n - k) * es = n * es := by rw [← Nat.add_mul, show k + (n - k) = n by omega]
     refine ⟨_, rfl, by rw [List.length_drop, h0, Nat.sub_mul], .inr ⟨b, o + k * es, c - 2 * k, all, bk, rfl, rfl, hb, by omega, h2, h5, by rw [e1]; omega, ?_⟩⟩
     rw [← h4, List.drop_take, List.drop_drop, Nat.sub_mul]
theorem SlO.at (s : SlO h fp v es n cs) {i : Nat} (hi : i < n) :
 ∃ b o, fp = [b] ∧ indexAddrD (.slice es) v (i64 i) = some (ptr b (o + i * es)) ∧ h.rdN b (o + i * es) es = some ((cs.drop (i * es)).take es) ∧ ∀ k, k < es → h.rd b (o + i * es + k) = cs[i * es + k]? := by
 obtain ⟨h0, ⟨rfl, h1, rfl⟩ | ⟨b, o, c, all, bk, rfl, rfl, hb, hc, h2, h5, h3, h4⟩⟩ := s
 · omega
 have h6 := Nat.mul_le_mul_right es hc
 have h7 : i * es + es ≤ n * es := by
  have := Nat.mul_le_mul_right es (show i + 1 ≤ n by omega)
  rwa [Nat.add_mul, Nat.one_mul] at this
 have b1 : (0 : Int) ≤ (i : Int) ∧ (i : Int) < (n : Nat) := by omega
 refine ⟨b, o, rfl, by simp only [indexAddrD, if_pos b1, Int.toNat_natCast], ?_, fun k hk => ?_⟩
 · rw [rdN_of h2, if_pos (by omega), ← h4, List.drop_take, List.take_take, List.drop_drop, Nat.min_eq_left (by omega)]
 · rw [rd_of h2, ← h4, List.getElem?_take, if_pos (by omega), List.getElem?_drop, Nat.add_assoc]
theorem SlO.append (s : SlO h fp v es n cs) {x : V} {k bytes : Nat} {z : List V} {new : List V} (hz : z.length = es) (he : 0 < es) (hby : bytes ≤ 64) (hx : aLenOf x = some k) (hs : k ≠ 0 → aSrc es x h = some new)
 (hn : new.length = k * es) (h1 : new.all oneCell = true) (hsum : n + k ≤ 1099511627776) :
 ∃ v' h' fp', appendD (some (es, bytes, z)) v x h = some (v', h') ∧ SlO h' fp' v' es (n + k) (cs ++ new) ∧ Mod h fp h' fp' := by
 have hlt := s.lt
 obtain ⟨h0, ⟨rfl, rfl, rfl⟩ | ⟨b, o, c, all, bk, rfl, rfl, hb, hc, h2, h5, h3, h4⟩⟩ := s
 · have : cs = [] := by simpa using h0
   subst this
   obtain ⟨v', h', fp', a1, a2, a3⟩ := Sl.append (h := h) (Sl.nil (es := es)) hz he hby hx hs hn h1 hsum
   exact ⟨v', h', fp', a1, a2.toO, a3⟩
 · have hcs : cs.length = n * es := h0
   simp only [appendD, hx, he, hby, hz, and_self, if_true]
   by_cases hk : k = 0
   · subst hk
     have : new = [] := by simpa using hn
     subst this
     exact ⟨_, _, [b], if_pos rfl, ⟨by simp [h0], .inr ⟨b, o, c, all, bk, rfl, rfl, hb, by omega, h2, h5, h3, by simp [h4]⟩⟩, Mod.refl hlt⟩
   · rw [if_neg hk]
     have hlen := Nat.mul_le_mul_right es hc
     by_cases hfit : n + k ≤ c / 2
     · rw [if_pos hfit, hs hk, h2]
       have hfl : o + n * es + new.length ≤ all.length := by
        have := Nat.mul_le_mul_right es hfit
        rw [Nat.add_mul] at this
        omega
       have hw : h.wr b (o + n * es) new = some (h.put b (.cells (setList all (o + n * es) new) es bk)) := by
        simp [AHeap.wr, h2, hfl, h5]
       simp only [h1, and_self, if_true, hw, Option.map_some]
       refine ⟨_, _, [b], rfl, ⟨by simp [h0, hn, Nat.add_mul], .inr ⟨b, o, c, setList all (o + n * es) new, bk, rfl, rfl, hb, hfit, by simp, h5, by rw [setList_length]; exact h3, ?_⟩⟩, by simp, fun x _ hx => ?_, fun x hx => .inl hx, hlt⟩
       · rw [setList_eq all new (o + n * es) hfl, List.append_assoc, List.drop_append_of_le_length (by simp; omega)]
         have e1 : (all.take (o + n * es)).drop o = cs := by rw [← h4, List.drop_take]; congr 1; omega
         rw [e1, Nat.add_mul, ← hn, ← h0, ← List.append_assoc, ← List.length_append, List.take_left]
       · simp at hx; simp [hx]
     · rw [if_neg hfit, if_pos hsum, hs hk]
       have hrd : h.rdN b o (n * es) = some cs := by
        rw [rdN_of h2, if_pos (by omega), h4]
       simp only [hrd, h2]
       have fin : ∀ h' k', (h' = h ∨ h' = h.kill b) → k' ≠ .ro → ∃ fp', SlO (h'.new (.cells (cs ++ new) es k')) fp' (.slice (some ⟨h.next, 0, none⟩) (n + k) (2 * (n + k) + 1)) es (n + k) (cs ++ new) ∧ Mod h [b] (h'.new (.cells (cs ++ new) es k')) fp' := by
        intro h' k' hh hk'
        have hnx : h'.next = h.next := by rcases hh with rfl | rfl <;> rfl
        refine ⟨[h.next], ⟨by simp [h0, hn, Nat.add_mul], .inr ⟨h.next, 0, _, cs ++ new, k', rfl, rfl, by simp [hnx], by omega, by simp [hnx], hk', ?_, ?_⟩⟩, by simp [hnx], fun x hx hb => ?_, by simp, by simp [hnx]⟩
        · rw [show (2 * (n + k) + 1) / 2 = n + k by omega]; simp [h0, hn, Nat.add_mul]
        · rw [List.drop_zero, Nat.add_mul, ← h0, ← hn, ← List.length_append, List.take_length]
        · simp at hb
          have : x ≠ h.next := by omega
          rcases hh with rfl | rfl <;> simp [hnx, this, hb]
       split
       · obtain ⟨fp', a, b'⟩ := fin h .rw (.inl rfl) (by decide)
         exact ⟨_, _, fp', rfl, a, b'⟩
       · obtain ⟨fp', a, b'⟩ := fin (h.kill b) (if o = 0 then bk else .rs) (.inr rfl) (by split <;> first | exact h5 | decide)
         simp only [h1, h5, ne_eq, not_false_eq_true, and_self, if_true]
         exact ⟨_, _, fp', rfl, a, b'⟩
end Go.Abs
namespace Go.Abs
open Go
structure RD (β : Type) where
 D : EL β
 I : β → List Pl
def SlEO {α : Type} (D : EL α) (h : AHeap) (fp : List Nat) (v : V) (l : List α) : Prop := SlO h fp v D.es l.length (D.flat l)
def plSlO {α : Type} (D : EL α) (v : V) (l : List α) : Pl := ⟨fun h f => SlEO D h f v l, fun _ _ q => SlO.lt q, fun _ _ _ q hl hs => SlO.same q hl hs⟩
def plRow {β : Type} (R : RD β) (v : V) (qs : List β) : Pl := plAll (plSlO R.D v qs :: qs.flatMap R.I)
variable {F : Fr} {h : AHeap} {L : List Pl} {β : Type} {R : RD β} {v w : V} {qs ws : List β}
theorem Sep.openRow (s : Sep F h (plRow R v qs :: L)) : Sep F h (plSlO R.D v qs :: (qs.flatMap R.I ++ L)) := s.all
theorem Sep.closeRow (s : Sep F h (plSlO R.D v qs :: (qs.flatMap R.I ++ L))) : Sep F h (plRow R v qs :: L) := Sep.mkAll (L' := plSlO R.D v qs :: qs.flatMap R.I) s
theorem Sep.rowNil (s : Sep F h L) : Sep F h (plRow R (.slice none 0 0) [] :: L) :=
 Sep.closeRow (s.alloc (a' := []) (plSlO R.D (.slice none 0 0) []) (Mod.refl (by simp)) SlO.nil)
theorem Sep.rowRaw (s : Sep F h (plRow R v qs :: L)) : ∃ fp, SlEO R.D h fp v qs := by
 obtain ⟨f, q, _⟩ := s.openRow.head
 exact ⟨f, q⟩
theorem Sep.rowLen (s : Sep F h (plRow R v qs :: L)) : lenD .slice v h = some (i64 qs.length) := by
 obtain ⟨f, q⟩ := s.rowRaw
 exact SlO.len q
theorem SlEO.at {α : Type} {D : EL α} {fp : List Nat} {l : List α} (q : SlEO D h fp v l) {i : Nat} {x : α} (hi : l[i]? = some x) :
 ∃ b o, indexAddrD (.slice D.es) v (i64 i) = some (ptr b o) ∧ h.rdN b o D.es = some (D.enc x) ∧ ∀ k, k < D.es → h.rd b (o + k) = (D.enc x)[k]? := by
 have hil : i < l.length := (List.getElem?_eq_some_iff.1 hi).1
 obtain ⟨b, o, _, a1, a2, a3⟩ := SlO.at q hil
 have hr := D.row hi
 refine ⟨b, _, a1, by rw [a2, hr], fun k hk => ?_⟩
 rw [a3 k hk, ← hr, List.getElem?_take, if_pos hk, List.getElem?_drop]
theorem Sep.rowAt (s : Sep F h (plRow R v qs :: L)) {i : Nat} {x : β} (hi : qs[i]? = some x) :
 ∃ b o, indexAddrD (.slice R.D.es) v (i64 i) = some (ptr b o) ∧ h.rdN b o R.D.es = some (R.D.enc x) ∧ (∀ k, k < R.D.es → h.rd b (o + k) = (R.D.enc x)[k]?) ∧ ∀ A ∈ R.I x, ∃ f, A.P h f := by
 obtain ⟨f, q⟩ := s.rowRaw
 obtain ⟨b, o, a1, a2, a3⟩ := q.at hi
 refine ⟨b, o, a1, a2, a3, fun A hA => s.openRow.memP ?_⟩
 refine List.mem_cons_of_mem _ (List.mem_append.2 (.inl (List.mem_flatMap.2 ⟨x, List.mem_of_getElem? hi, hA⟩)))
theorem Sep.rowSnoc {x : β} {bytes : Nat} {z : List V} (s : Sep F h (plRow R v qs :: (R.I x ++ L))) (hz : z.length = R.D.es) (hby : bytes ≤ 64) (hx : aLenOf w = some 1) (hw : aSrc R.D.es w h = some (R.D.enc x)) (hsz : qs.length ≤ 1000000) :
 ∃ v' h', appendD (some (R.D.es, bytes, z)) v w h = some (v', h') ∧ Sep F h' (plRow R v' (qs ++ [x]) :: L) := by
 obtain ⟨f, q, k⟩ := s.openRow.head
 obtain ⟨v', h', fp', a1, a2, a3⟩ := SlO.append (new := R.D.enc x) q hz R.D.pos hby hx (fun _ => hw) (by rw [R.D.len, Nat.one_mul]) (R.D.one x) (by omega)
 refine ⟨v', h', a1, ?_⟩
 have a2' : SlEO R.D h' fp' v' (qs ++ [x]) := by
  unfold SlEO
  rw [List.length_append, R.D.flat_app]
  simpa using a2
 have s2 := k (plSlO R.D v' (qs ++ [x])) a3 a2'
 refine Sep.closeRow ?_
 rw [List.flatMap_append, List.append_assoc]
 simpa using s2
theorem Sep.rowCut (s : Sep F h (plRow R v qs :: L)) {k : Nat} {t : IntKind} (hk : k = 0 ∨ k < qs.length) : ∃ v', sliceD (.slice R.D.es) v (some (.int t k)) none none h = some v' ∧ Sep F h (plRow R v' (qs.drop k) :: L) := by
 obtain ⟨f, q, kk⟩ := s.openRow.head
 obtain ⟨v', a1, a2⟩ := SlO.post (t := t) q hk
 refine ⟨v', a1, ?_⟩
 have a2' : SlEO R.D h f v' (qs.drop k) := by
  unfold SlEO
  rw [List.length_drop, ← R.D.flat_drop]
  exact a2
 have s2 := kk (plSlO R.D v' (qs.drop k)) (Mod.refl (SlO.lt q)) a2'
 have e : qs.flatMap R.I = (qs.take k).flatMap R.I ++ (qs.drop k).flatMap R.I := by rw [← List.flatMap_append, List.take_append_drop]
 rw [e, List.append_assoc] at s2
 refine Sep.closeRow ?_
 have p : (plSlO R.D v' (qs.drop k) :: ((qs.take k).flatMap R.I ++ ((qs.drop k).flatMap R.I ++ L))).Perm ((qs.take k).flatMap R.I ++ (plSlO R.D v' (qs.drop k) :: ((qs.drop k).flatMap R.I ++ L))) := List.perm_middle.symm
 exact (s2.perm p).dropL
end Go.Abs
namespace Go.Abs
open Go Go.Proofs
variable {E : FE} {F : Fr} {h : AHeap} {L : List Pl}
def kdInt : KD Int where
 kk := .int
 enc := i64
 ok := fun k => by simp [keyOkD]
 eq := fun a b => by
  show (if IntKind.i64 = IntKind.i64 then some (a == b) else none) = _
  rw [if_pos rfl]
  by_cases h : a = b
  · simp [h]
  · simp [h]
 closed := fun a => by simp [closedV, closed0]
 bits := fun a => by simp [Instr.sameBits]
structure VoteM where
 id : IdM
 shard : Int
 yes : Bool
 now : Int
 vals : List ByteArray
structure AnsM where
 id : IdM
 err : Int
 vals : List ByteArray
structure TransM where
 ops : List Oq
 parts : List (List Int)
 votes : List (Int × VoteM)
 decided : Bool
 ok : Bool
 done : List (Int × Unit)
 nows : List Int
structure DeskM where
 n : Int
 last : List (Int × Int)
 opn : List (IdM × TransM)
 kept : List (Int × List AnsM)
def vtV (_ : Int) (v : V) (x : VoteM) : Pl := plEx fun (w : V) => plAll [plPure (v = .agg #[i64 x.id.client, i64 x.id.seq, i64 x.shard, .bool x.yes, i64 x.now, w]), plStrs w x.vals]
def dnV (_ : Int) (v : V) (_ : Unit) : Pl := plPure (v = .bool true)
def plTr (p : V) (t : TransM) : Pl := plEx fun (y : Nat × V × V × Nat × Nat × V) =>
 plAll [plPure (p = ptr y.1 0), plBox y.1 [y.2.1, y.2.2.1, .map (some y.2.2.2.1), .bool t.decided, .bool t.ok, .map (some y.2.2.2.2.1), y.2.2.2.2.2] 7, plOps y.2.1 t.ops, plPts y.2.2.1 t.parts, plGM kdInt vtV y.2.2.2.1 t.votes, plGM kdInt dnV y.2.2.2.2.1 t.done, plI64s y.2.2.2.2.2 t.nows]
def trV (_ : IdM) (v : V) (x : TransM) : Pl := plTr v x
theorem Sep.openTr {p : V} {t : TransM} (s : Sep F h (plTr p t :: L)) : ∃ b vo vp mv md vn, p = ptr b 0 ∧
 Sep F h (plBox b [vo, vp, .map (some mv), .bool t.decided, .bool t.ok, .map (some md), vn] 7 :: plOps vo t.ops :: plPts vp t.parts :: plGM kdInt vtV mv t.votes :: plGM kdInt dnV md t.done :: plI64s vn t.nows :: L) := by
 obtain ⟨⟨b, vo, vp, mv, md, vn⟩, s⟩ := s.ex
 have s1 := s.all
 obtain ⟨e, s2⟩ := Sep.pure (L := plBox b [vo, vp, .map (some mv), .bool t.decided, .bool t.ok, .map (some md), vn] 7 :: plOps vo t.ops :: plPts vp t.parts :: plGM kdInt vtV mv t.votes :: plGM kdInt dnV md t.done :: plI64s vn t.nows :: L) s1
 exact ⟨b, vo, vp, mv, md, vn, e, s2⟩
theorem Sep.closeTr {b mv md : Nat} {vo vp vn : V} {t : TransM}
 (s : Sep F h (plBox b [vo, vp, .map (some mv), .bool t.decided, .bool t.ok, .map (some md), vn] 7 :: plOps vo t.ops :: plPts vp t.parts :: plGM kdInt vtV mv t.votes :: plGM kdInt dnV md t.done :: plI64s vn t.nows :: L)) : Sep F h (plTr (ptr b 0) t :: L) :=
 Sep.mkEx (A := fun (y : Nat × V × V × Nat × Nat × V) => plAll [plPure (ptr b 0 = ptr y.1 0), plBox y.1 [y.2.1, y.2.2.1, .map (some y.2.2.2.1), .bool t.decided, .bool t.ok, .map (some y.2.2.2.2.1), y.2.2.2.2.2] 7, plOps y.2.1 t.ops, plPts y.2.2.1 t.parts, plGM kdInt vtV y.2.2.2.1 t.votes, plGM kdInt dnV y.2.2.2.2.1 t.done, plI64s y.2.2.2.2.2 t.nows]) (b, vo, vp, mv, md, vn)
  (Sep.mkAll (L' := [plPure (ptr b 0 = ptr b 0), plBox b [vo, vp, .map (some mv), .bool t.decided, .bool t.ok, .map (some md), vn] 7, plOps vo t.ops, plPts vp t.parts, plGM kdInt vtV mv t.votes, plGM kdInt dnV md t.done, plI64s vn t.nows]) (Sep.mkPure rfl s))
def AnsM.cells (a : AnsM) (t : Tri) : List V := [i64 a.id.client, i64 a.id.seq, i64 a.err, mkS t]
def dAn : EL (AnsM × Tri) := ⟨4, fun e => e.1.cells e.2, fun _ => rfl, fun _ => rfl, by decide⟩
def rdAn : RD (AnsM × Tri) := ⟨dAn, fun e => [plStrs (mkS e.2) e.1.vals]⟩
def plAns (v : V) (l : List AnsM) : Pl := plEx fun (qs : List (AnsM × Tri)) => plAll [plPure (qs.map (·.1) = l), plRow rdAn v qs]
def anV (_ : Int) (v : V) (x : List AnsM) : Pl := plAns v x
def lsV (_ : Int) (v : V) (x : Int) : Pl := plPure (v = i64 x)
def plDsk (p : V) (d : DeskM) : Pl := plEx fun (y : Nat × Nat × Nat × Nat) =>
 plAll [plPure (p = ptr y.1 0), plBox y.1 [i64 d.n, .map (some y.2.1), .map (some y.2.2.1), .map (some y.2.2.2)] 4, plGM kdInt lsV y.2.1 d.last, plGM kdId trV y.2.2.1 d.opn, plGM kdInt anV y.2.2.2 d.kept]
theorem Sep.openDsk {p : V} {d : DeskM} (s : Sep F h (plDsk p d :: L)) : ∃ b ml mo mk, p = ptr b 0 ∧
 Sep F h (plBox b [i64 d.n, .map (some ml), .map (some mo), .map (some mk)] 4 :: plGM kdInt lsV ml d.last :: plGM kdId trV mo d.opn :: plGM kdInt anV mk d.kept :: L) := by
 obtain ⟨⟨b, ml, mo, mk⟩, s⟩ := s.ex
 have s1 := s.all
 obtain ⟨e, s2⟩ := Sep.pure (L := plBox b [i64 d.n, .map (some ml), .map (some mo), .map (some mk)] 4 :: plGM kdInt lsV ml d.last :: plGM kdId trV mo d.opn :: plGM kdInt anV mk d.kept :: L) s1
 exact ⟨b, ml, mo, mk, e, s2⟩
theorem Sep.closeDsk {b ml mo mk : Nat} {d : DeskM} (s : Sep F h (plBox b [i64 d.n, .map (some ml), .map (some mo), .map (some mk)] 4 :: plGM kdInt lsV ml d.last :: plGM kdId trV mo d.opn :: plGM kdInt anV mk d.kept :: L)) : Sep F h (plDsk (ptr b 0) d :: L) :=
 Sep.mkEx (A := fun (y : Nat × Nat × Nat × Nat) => plAll [plPure (ptr b 0 = ptr y.1 0), plBox y.1 [i64 d.n, .map (some y.2.1), .map (some y.2.2.1), .map (some y.2.2.2)] 4, plGM kdInt lsV y.2.1 d.last, plGM kdId trV y.2.2.1 d.opn, plGM kdInt anV y.2.2.2 d.kept]) (b, ml, mo, mk)
  (Sep.mkAll (L' := [plPure (ptr b 0 = ptr b 0), plBox b [i64 d.n, .map (some ml), .map (some mo), .map (some mk)] 4, plGM kdInt lsV ml d.last, plGM kdId trV mo d.opn, plGM kdInt anV mk d.kept]) (Sep.mkPure rfl s))
theorem desk_New (n : Int) (hn : 1 ≤ n ∧ n ≤ 3) (s : Sep F h L) : cl (Go.Abs.F.desk_New E) [i64 n] h fun r h' => Sep F h' (plDsk r ⟨n, [], [], []⟩ :: L) := by
 refine cl_of ?_
 have h1 : ¬ n < 1 := by omega
 have h3 : ¬ n > 3 := by omega
 have em : ∀ h : AHeap, makeMapD true none h = some (.map (some h.next), h.new (.map [] 0)) := fun _ => rfl
 simp only [Go.Abs.F.desk_New, bin_lss, bin_gtr, kv_some, gdV_bool, h1, h3, decide_false, if_true, pickV_bool, Bool.false_eq_true, if_false, ifV_bool]
 rw [em, kP_some]
 have s1 := s.newM (D := kdInt) (A := lsV)
 generalize h.new (.map [] 0) = h1 at s1 ⊢
 generalize h.next = m1 at s1 ⊢
 rw [em, kP_some]
 have s2 := s1.newM (D := kdId) (A := trV)
 generalize h1.new (.map [] 0) = h2 at s2 ⊢
 generalize h1.next = m2 at s2 ⊢
 rw [em, kP_some]
 have s3 := s2.newM (D := kdInt) (A := anV)
 generalize h2.new (.map [] 0) = h3 at s3 ⊢
 generalize h2.next = m3 at s3 ⊢
 have e1 : buildD (.struct [(.int .i64 0), (.map none), (.map none), (.map none)] [(0, 1), (1, 1), (2, 1), (3, 1)]) [(0, i64 n), (1, .map (some m1)), (2, .map (some m2)), (3, .map (some m3))] = some (.agg #[i64 n, .map (some m1), .map (some m2), .map (some m3)]) := rfl
 have e2 : newD none (.agg #[i64 n, .map (some m1), .map (some m2), .map (some m3)]) h3 = some (ptr h3.next 0, h3.new (.cells [i64 n, .map (some m1), .map (some m2), .map (some m3)] 4 .rw)) := rfl
 rw [e1, kv_some, e2, kP_some]
 have s4 := s3.box [i64 n, .map (some m1), .map (some m2), .map (some m3)] 4
 exact Sep.closeDsk (d := ⟨n, [], [], []⟩) (s4.re4 [0, 3, 2, 1] rfl)
end Go.Abs
namespace Go.Abs
open Go Go.Proofs
variable {E : FE} {F : Fr} {h : AHeap} {L : List Pl}
def newTr (ops : List Oq) (n : Nat) : TransM := ⟨ops, partsF ops n, [], false, false, [], []⟩
def beginV (d : DeskM) (id : IdM) (ops : List Oq) : Bool × DeskM :=
 if clientB id && allO ops && decide ((lkp id.client d.last).getD 0 < id.seq) then (true, { d with last := ins id.client id.seq d.last, opn := ins id (newTr ops d.n.toNat) d.opn }) else (false, d)
theorem Sep.lookL {ml : Nat} {l : List (Int × Int)} (s : Sep F h (plGM kdInt lsV ml l :: L)) (n : Int) :
 lookupD (some (.int, (some (.int .i64 0)))) (.map (some ml)) (i64 n) false h = some (i64 ((lkp n l).getD 0)) := by
 cases hk : Go.Abs.lkp n l with
 | none =>
  have h1 := s.lookNone (z := .int .i64 0) hk false
  have h1 : lookupD (some (.int, (some (.int .i64 0)))) (.map (some ml)) (i64 n) false h = some (.int .i64 0) := h1
  rw [h1]; rfl
 | some x =>
  obtain ⟨w, h1, s1⟩ := s.lookSome (z := .int .i64 0) hk false
  have h1 : lookupD (some (.int, (some (.int .i64 0)))) (.map (some ml)) (i64 n) false h = some w := h1
  obtain ⟨hw, _⟩ := Sep.pure (φ := w = i64 x) s1
  rw [h1, hw]; rfl
theorem sl_form {α : Type} {D : EL α} {f : List Nat} {v : V} {l : List α} (q : SlE D h f v l) : ∃ t, v = mkS t := by
 obtain ⟨_, ⟨rfl, _, _⟩ | ⟨b, c, all, rfl, _⟩⟩ := q
 · exact ⟨(none, 0, 0), rfl⟩
 · exact ⟨(_, _, _), rfl⟩
theorem begin_fin {vC vP : V} {b bi m1 m2 ml mo mk nn : Nat} {id : IdM} {ops : List Oq} {n : Int} {last : List (Int × Int)} {opn : List (IdM × TransM)} {kept : List (Int × List AnsM)} {a2 : V}
 (s : Sep F h (plOps vC ops :: plPts vP (partsF ops nn) :: plGM kdInt vtV m1 [] :: plGM kdInt dnV m2 [] :: plBox bi (cId id) 2 :: plBox b [i64 n, .map (some ml), .map (some mo), .map (some mk)] 4 :: plOps a2 ops :: plGM kdId trV mo opn :: plGM kdInt lsV ml last :: plGM kdInt anV mk kept :: L)) {K : AHeap → Prop}
 (hK : ∀ h', Sep F h' (plDsk (ptr b 0) ⟨n, last, ins id (newTr ops nn) opn, kept⟩ :: plOps a2 ops :: L) → K h') :
kv (buildD (.struct [(.slice none 0 0), (.slice none 0 0), (.map none), (.bool false), (.bool false), (.map none), (.slice none 0 0)] [(0, 1), (1, 1), (2, 1), (3, 1), (4, 1), (5, 1), (6, 1)]) [(0, vC), (1, vP), (2, .map (some m1)), (5, .map (some m2))]) fun v54 =>
kP (newD none v54 h) fun v55 h =>
ldD .one (ptr b 2) h = some (.map (some mo)) ∧
ldD (.agg 2) (ptr bi 0) h = some id.agg ∧
kH (mapUpdateD (some ((.struct false [(0, .int), (1, .int)]), (some (.pointer none)))) (.map (some mo)) id.agg v55 h) fun _ h =>
K h := by
 obtain ⟨fC, qC, _⟩ := s.head
 obtain ⟨tC, rfl⟩ := sl_form (D := dOp) (show SlE dOp h fC vC ops from qC)
 obtain ⟨qs, _, sP⟩ := s.up1.openPts
 obtain ⟨fP, qP, _⟩ := sP.head
 obtain ⟨tP, rfl⟩ := sl_form (D := dSl) (show SlE dSl h fP vP _ from qP)
 have e1 : buildD (.struct [(.slice none 0 0), (.slice none 0 0), (.map none), (.bool false), (.bool false), (.map none), (.slice none 0 0)] [(0, 1), (1, 1), (2, 1), (3, 1), (4, 1), (5, 1), (6, 1)]) [(0, mkS tC), (1, mkS tP), (2, .map (some m1)), (5, .map (some m2))] = some (.agg #[mkS tC, mkS tP, .map (some m1), .bool false, .bool false, .map (some m2), .slice none 0 0]) := rfl
 have e2 : newD none (.agg #[mkS tC, mkS tP, .map (some m1), .bool false, .bool false, .map (some m2), .slice none 0 0]) h = some (ptr h.next 0, h.new (.cells [mkS tC, mkS tP, .map (some m1), .bool false, .bool false, .map (some m2), .slice none 0 0] 7 .rw)) := rfl
 rw [e1, kv_some, e2, kP_some]
 have s1 := s.box [mkS tC, mkS tP, .map (some m1), .bool false, .bool false, .map (some m2), .slice none 0 0] 7
 clear s sP
 generalize h.new (.cells [mkS tC, mkS tP, .map (some m1), .bool false, .bool false, .map (some m2), .slice none 0 0] 7 .rw) = h1 at s1 ⊢
 generalize h.next = bt at s1 ⊢
 have gb := Sep.get (s1.re11 [6] rfl)
 have gi := Sep.get (s1.re11 [5] rfl)
 refine ⟨by rw [ld_one, rd_of gb 2]; rfl, ld2 gi, ?_⟩
 have s2 : Sep F h1 (plTr (ptr bt 0) (newTr ops nn) :: plBox b [i64 n, .map (some ml), .map (some mo), .map (some mk)] 4 :: plOps a2 ops :: plGM kdId trV mo opn :: plGM kdInt lsV ml last :: plGM kdInt anV mk kept :: L) :=
  Sep.closeTr (t := newTr ops nn) ((Sep.noInts (s1.re11 [0, 1, 2, 3, 4, 6, 7, 8, 9, 10] rfl)).re11 [1, 2, 3, 4, 5, 0, 6, 7, 8, 9, 10] rfl)
 obtain ⟨h2, e3, s3⟩ := Sep.insM (D := kdId) (A := trV) (k := id) (v := ptr bt 0) (x := newTr ops nn) (z := nil) (s2.re6 [3, 0, 1, 2, 4, 5] rfl)
 have e3 : mapUpdateD (some ((.struct false [(0, .int), (1, .int)]), (some (.pointer none)))) (.map (some mo)) id.agg (ptr bt 0) h1 = some h2 := e3
 rw [e3, kH_some]
 refine hK _ ?_
 exact Sep.closeDsk (d := ⟨n, last, ins id (newTr ops nn) opn, kept⟩) (s3.re5 [1, 3, 0, 4, 2] rfl)
set_option maxHeartbeats 4000000 in
/-- All orders. -/
theorem begin_tree {b bi ml mo mk nn : Nat} {id : IdM} {ops : List Oq} {last : List (Int × Int)} {opn : List (IdM × TransM)} {kept : List (Int × List AnsM)} {a2 : V} (hn : 1 ≤ nn ∧ nn ≤ 3) (hl : ops.length ≤ 100000) (hz : ∀ o ∈ ops, o.space.size ≤ 1000000000)
 (s : Sep F h (plBox bi (cId id) 2 :: plBox b [i64 (nn : Nat), .map (some ml), .map (some mo), .map (some mk)] 4 :: plOps a2 ops :: plGM kdId trV mo opn :: plGM kdInt lsV ml last :: plGM kdInt anV mk kept :: L)) {K : AHeap → Prop}
 (hK : ∀ h', Sep F h' (plDsk (ptr b 0) ⟨(nn : Nat), last, ins id (newTr ops nn) opn, kept⟩ :: plOps a2 ops :: L) → K h') :
((cl (Go.Abs.F.slices_Clone_Sapi_Op_api_Op E) [a2] h fun v45_37 h =>
ldD .one (ptr b 2) h = some (.map (some mo)) ∧
ldD (.agg 2) (ptr bi 0) h = some id.agg ∧
ldD .one (ptr b 0) h = some (i64 (nn : Nat)) ∧
((cl (Go.Abs.F.op_Parts E) [a2, (i64 (nn : Nat))] h fun v51_38 h =>
ldD .one (ptr b 2) h = some (.map (some mo)) ∧
ldD (.agg 2) (ptr bi 0) h = some id.agg ∧
(kP (makeMapD true none h) fun v52_39 h =>
ldD .one (ptr b 2) h = some (.map (some mo)) ∧
ldD (.agg 2) (ptr bi 0) h = some id.agg ∧
ldD .one (ptr b 0) h = some (i64 (nn : Nat)) ∧
kP (makeMapD true none h) fun v53_40 h =>
ldD .one (ptr b 2) h = some (.map (some mo)) ∧
ldD (.agg 2) (ptr bi 0) h = some id.agg ∧
ldD .one (ptr b 0) h = some (i64 (nn : Nat)) ∧
kv (buildD (.struct [(.slice none 0 0), (.slice none 0 0), (.map none), (.bool false), (.bool false), (.map none), (.slice none 0 0)] [(0, 1), (1, 1), (2, 1), (3, 1), (4, 1), (5, 1), (6, 1)]) [(0, v45_37), (1, v51_38), (2, v52_39), (5, v53_40)]) fun v54_41 =>
kP (newD none v54_41 h) fun v55_42 h =>
ldD .one (ptr b 2) h = some (.map (some mo)) ∧
ldD (.agg 2) (ptr bi 0) h = some id.agg ∧
kH (mapUpdateD (some ((.struct false [(0, .int), (1, .int)]), (some (.pointer none)))) (.map (some mo)) id.agg v55_42 h) fun _ h =>
K h) ∧
(kP (makeMapD true none h) fun v53_43 h =>
ldD .one (ptr b 2) h = some (.map (some mo)) ∧
ldD (.agg 2) (ptr bi 0) h = some id.agg ∧
ldD .one (ptr b 0) h = some (i64 (nn : Nat)) ∧
kP (makeMapD true none h) fun v52_44 h =>
ldD .one (ptr b 2) h = some (.map (some mo)) ∧
ldD (.agg 2) (ptr bi 0) h = some id.agg ∧
ldD .one (ptr b 0) h = some (i64 (nn : Nat)) ∧
kv (buildD (.struct [(.slice none 0 0), (.slice none 0 0), (.map none), (.bool false), (.bool false), (.map none), (.slice none 0 0)] [(0, 1), (1, 1), (2, 1), (3, 1), (4, 1), (5, 1), (6, 1)]) [(0, v45_37), (1, v51_38), (2, v52_44), (5, v53_43)]) fun v54_45 =>
kP (newD none v54_45 h) fun v55_46 h =>
ldD .one (ptr b 2) h = some (.map (some mo)) ∧
ldD (.agg 2) (ptr bi 0) h = some id.agg ∧
kH (mapUpdateD (some ((.struct false [(0, .int), (1, .int)]), (some (.pointer none)))) (.map (some mo)) id.agg v55_46 h) fun _ h =>
K h)) ∧
(kP (makeMapD true none h) fun v52_47 h =>
ldD .one (ptr b 2) h = some (.map (some mo)) ∧
ldD (.agg 2) (ptr bi 0) h = some id.agg ∧
ldD .one (ptr b 0) h = some (i64 (nn : Nat)) ∧
(cl (Go.Abs.F.op_Parts E) [a2, (i64 (nn : Nat))] h fun v51_48 h =>
ldD .one (ptr b 2) h = some (.map (some mo)) ∧
ldD (.agg 2) (ptr bi 0) h = some id.agg ∧
kP (makeMapD true none h) fun v53_49 h =>
ldD .one (ptr b 2) h = some (.map (some mo)) ∧
ldD (.agg 2) (ptr bi 0) h = some id.agg ∧
ldD .one (ptr b 0) h = some (i64 (nn : Nat)) ∧
kv (buildD (.struct [(.slice none 0 0), (.slice none 0 0), (.map none), (.bool false), (.bool false), (.map none), (.slice none 0 0)] [(0, 1), (1, 1), (2, 1), (3, 1), (4, 1), (5, 1), (6, 1)]) [(0, v45_37), (1, v51_48), (2, v52_47), (5, v53_49)]) fun v54_50 =>
kP (newD none v54_50 h) fun v55_51 h =>
ldD .one (ptr b 2) h = some (.map (some mo)) ∧
ldD (.agg 2) (ptr bi 0) h = some id.agg ∧
kH (mapUpdateD (some ((.struct false [(0, .int), (1, .int)]), (some (.pointer none)))) (.map (some mo)) id.agg v55_51 h) fun _ h =>
K h) ∧
(kP (makeMapD true none h) fun v53_52 h =>
ldD .one (ptr b 2) h = some (.map (some mo)) ∧
ldD (.agg 2) (ptr bi 0) h = some id.agg ∧
ldD .one (ptr b 0) h = some (i64 (nn : Nat)) ∧
cl (Go.Abs.F.op_Parts E) [a2, (i64 (nn : Nat))] h fun v51_53 h =>
ldD .one (ptr b 2) h = some (.map (some mo)) ∧
ldD (.agg 2) (ptr bi 0) h = some id.agg ∧
kv (buildD (.struct [(.slice none 0 0), (.slice none 0 0), (.map none), (.bool false), (.bool false), (.map none), (.slice none 0 0)] [(0, 1), (1, 1), (2, 1), (3, 1), (4, 1), (5, 1), (6, 1)]) [(0, v45_37), (1, v51_53), (2, v52_47), (5, v53_52)]) fun v54_54 =>
kP (newD none v54_54 h) fun v55_55 h =>
ldD .one (ptr b 2) h = some (.map (some mo)) ∧
ldD (.agg 2) (ptr bi 0) h = some id.agg ∧
kH (mapUpdateD (some ((.struct false [(0, .int), (1, .int)]), (some (.pointer none)))) (.map (some mo)) id.agg v55_55 h) fun _ h =>
K h))) ∧
(kP (makeMapD true none h) fun v53_56 h =>
ldD .one (ptr b 2) h = some (.map (some mo)) ∧
ldD (.agg 2) (ptr bi 0) h = some id.agg ∧
ldD .one (ptr b 0) h = some (i64 (nn : Nat)) ∧
(cl (Go.Abs.F.op_Parts E) [a2, (i64 (nn : Nat))] h fun v51_57 h =>
ldD .one (ptr b 2) h = some (.map (some mo)) ∧
ldD (.agg 2) (ptr bi 0) h = some id.agg ∧
kP (makeMapD true none h) fun v52_58 h =>
ldD .one (ptr b 2) h = some (.map (some mo)) ∧
ldD (.agg 2) (ptr bi 0) h = some id.agg ∧
ldD .one (ptr b 0) h = some (i64 (nn : Nat)) ∧
kv (buildD (.struct [(.slice none 0 0), (.slice none 0 0), (.map none), (.bool false), (.bool false), (.map none), (.slice none 0 0)] [(0, 1), (1, 1), (2, 1), (3, 1), (4, 1), (5, 1), (6, 1)]) [(0, v45_37), (1, v51_57), (2, v52_58), (5, v53_56)]) fun v54_59 =>
kP (newD none v54_59 h) fun v55_60 h =>
ldD .one (ptr b 2) h = some (.map (some mo)) ∧
ldD (.agg 2) (ptr bi 0) h = some id.agg ∧
kH (mapUpdateD (some ((.struct false [(0, .int), (1, .int)]), (some (.pointer none)))) (.map (some mo)) id.agg v55_60 h) fun _ h =>
K h) ∧
(kP (makeMapD true none h) fun v52_61 h =>
ldD .one (ptr b 2) h = some (.map (some mo)) ∧
ldD (.agg 2) (ptr bi 0) h = some id.agg ∧
ldD .one (ptr b 0) h = some (i64 (nn : Nat)) ∧
cl (Go.Abs.F.op_Parts E) [a2, (i64 (nn : Nat))] h fun v51_62 h =>
ldD .one (ptr b 2) h = some (.map (some mo)) ∧
ldD (.agg 2) (ptr bi 0) h = some id.agg ∧
kv (buildD (.struct [(.slice none 0 0), (.slice none 0 0), (.map none), (.bool false), (.bool false), (.map none), (.slice none 0 0)] [(0, 1), (1, 1), (2, 1), (3, 1), (4, 1), (5, 1), (6, 1)]) [(0, v45_37), (1, v51_62), (2, v52_61), (5, v53_56)]) fun v54_63 =>
kP (newD none v54_63 h) fun v55_64 h =>
ldD .one (ptr b 2) h = some (.map (some mo)) ∧
ldD (.agg 2) (ptr bi 0) h = some id.agg ∧
kH (mapUpdateD (some ((.struct false [(0, .int), (1, .int)]), (some (.pointer none)))) (.map (some mo)) id.agg v55_64 h) fun _ h =>
K h))) ∧
(kP (makeMapD true none h) fun v52_65 h =>
ldD .one (ptr b 2) h = some (.map (some mo)) ∧
ldD (.agg 2) (ptr bi 0) h = some id.agg ∧
ldD .one (ptr b 0) h = some (i64 (nn : Nat)) ∧
(cl (Go.Abs.F.slices_Clone_Sapi_Op_api_Op E) [a2] h fun v45_66 h =>
ldD .one (ptr b 2) h = some (.map (some mo)) ∧
ldD (.agg 2) (ptr bi 0) h = some id.agg ∧
ldD .one (ptr b 0) h = some (i64 (nn : Nat)) ∧
(cl (Go.Abs.F.op_Parts E) [a2, (i64 (nn : Nat))] h fun v51_67 h =>
ldD .one (ptr b 2) h = some (.map (some mo)) ∧
ldD (.agg 2) (ptr bi 0) h = some id.agg ∧
kP (makeMapD true none h) fun v53_68 h =>
ldD .one (ptr b 2) h = some (.map (some mo)) ∧
ldD (.agg 2) (ptr bi 0) h = some id.agg ∧
ldD .one (ptr b 0) h = some (i64 (nn : Nat)) ∧
kv (buildD (.struct [(.slice none 0 0), (.slice none 0 0), (.map none), (.bool false), (.bool false), (.map none), (.slice none 0 0)] [(0, 1), (1, 1), (2, 1), (3, 1), (4, 1), (5, 1), (6, 1)]) [(0, v45_66), (1, v51_67), (2, v52_65), (5, v53_68)]) fun v54_69 =>
kP (newD none v54_69 h) fun v55_70 h =>
ldD .one (ptr b 2) h = some (.map (some mo)) ∧
ldD (.agg 2) (ptr bi 0) h = some id.agg ∧
kH (mapUpdateD (some ((.struct false [(0, .int), (1, .int)]), (some (.pointer none)))) (.map (some mo)) id.agg v55_70 h) fun _ h =>
K h) ∧
(kP (makeMapD true none h) fun v53_71 h =>
ldD .one (ptr b 2) h = some (.map (some mo)) ∧
ldD (.agg 2) (ptr bi 0) h = some id.agg ∧
ldD .one (ptr b 0) h = some (i64 (nn : Nat)) ∧
cl (Go.Abs.F.op_Parts E) [a2, (i64 (nn : Nat))] h fun v51_72 h =>
ldD .one (ptr b 2) h = some (.map (some mo)) ∧
ldD (.agg 2) (ptr bi 0) h = some id.agg ∧
kv (buildD (.struct [(.slice none 0 0), (.slice none 0 0), (.map none), (.bool false), (.bool false), (.map none), (.slice none 0 0)] [(0, 1), (1, 1), (2, 1), (3, 1), (4, 1), (5, 1), (6, 1)]) [(0, v45_66), (1, v51_72), (2, v52_65), (5, v53_71)]) fun v54_73 =>
kP (newD none v54_73 h) fun v55_74 h =>
ldD .one (ptr b 2) h = some (.map (some mo)) ∧
ldD (.agg 2) (ptr bi 0) h = some id.agg ∧
kH (mapUpdateD (some ((.struct false [(0, .int), (1, .int)]), (some (.pointer none)))) (.map (some mo)) id.agg v55_74 h) fun _ h =>
K h)) ∧
(kP (makeMapD true none h) fun v53_75 h =>
ldD .one (ptr b 2) h = some (.map (some mo)) ∧
ldD (.agg 2) (ptr bi 0) h = some id.agg ∧
ldD .one (ptr b 0) h = some (i64 (nn : Nat)) ∧
cl (Go.Abs.F.slices_Clone_Sapi_Op_api_Op E) [a2] h fun v45_76 h =>
ldD .one (ptr b 2) h = some (.map (some mo)) ∧
ldD (.agg 2) (ptr bi 0) h = some id.agg ∧
ldD .one (ptr b 0) h = some (i64 (nn : Nat)) ∧
cl (Go.Abs.F.op_Parts E) [a2, (i64 (nn : Nat))] h fun v51_77 h =>
ldD .one (ptr b 2) h = some (.map (some mo)) ∧
ldD (.agg 2) (ptr bi 0) h = some id.agg ∧
kv (buildD (.struct [(.slice none 0 0), (.slice none 0 0), (.map none), (.bool false), (.bool false), (.map none), (.slice none 0 0)] [(0, 1), (1, 1), (2, 1), (3, 1), (4, 1), (5, 1), (6, 1)]) [(0, v45_76), (1, v51_77), (2, v52_65), (5, v53_75)]) fun v54_78 =>
kP (newD none v54_78 h) fun v55_79 h =>
ldD .one (ptr b 2) h = some (.map (some mo)) ∧
ldD (.agg 2) (ptr bi 0) h = some id.agg ∧
kH (mapUpdateD (some ((.struct false [(0, .int), (1, .int)]), (some (.pointer none)))) (.map (some mo)) id.agg v55_79 h) fun _ h =>
K h))) ∧
(kP (makeMapD true none h) fun v53_80 h =>
ldD .one (ptr b 2) h = some (.map (some mo)) ∧
ldD (.agg 2) (ptr bi 0) h = some id.agg ∧
ldD .one (ptr b 0) h = some (i64 (nn : Nat)) ∧
(cl (Go.Abs.F.slices_Clone_Sapi_Op_api_Op E) [a2] h fun v45_81 h =>
ldD .one (ptr b 2) h = some (.map (some mo)) ∧
ldD (.agg 2) (ptr bi 0) h = some id.agg ∧
ldD .one (ptr b 0) h = some (i64 (nn : Nat)) ∧
(cl (Go.Abs.F.op_Parts E) [a2, (i64 (nn : Nat))] h fun v51_82 h =>
ldD .one (ptr b 2) h = some (.map (some mo)) ∧
ldD (.agg 2) (ptr bi 0) h = some id.agg ∧
kP (makeMapD true none h) fun v52_83 h =>
ldD .one (ptr b 2) h = some (.map (some mo)) ∧
ldD (.agg 2) (ptr bi 0) h = some id.agg ∧
ldD .one (ptr b 0) h = some (i64 (nn : Nat)) ∧
kv (buildD (.struct [(.slice none 0 0), (.slice none 0 0), (.map none), (.bool false), (.bool false), (.map none), (.slice none 0 0)] [(0, 1), (1, 1), (2, 1), (3, 1), (4, 1), (5, 1), (6, 1)]) [(0, v45_81), (1, v51_82), (2, v52_83), (5, v53_80)]) fun v54_84 =>
kP (newD none v54_84 h) fun v55_85 h =>
ldD .one (ptr b 2) h = some (.map (some mo)) ∧
ldD (.agg 2) (ptr bi 0) h = some id.agg ∧
kH (mapUpdateD (some ((.struct false [(0, .int), (1, .int)]), (some (.pointer none)))) (.map (some mo)) id.agg v55_85 h) fun _ h =>
K h) ∧
(kP (makeMapD true none h) fun v52_86 h =>
ldD .one (ptr b 2) h = some (.map (some mo)) ∧
ldD (.agg 2) (ptr bi 0) h = some id.agg ∧
ldD .one (ptr b 0) h = some (i64 (nn : Nat)) ∧
cl (Go.Abs.F.op_Parts E) [a2, (i64 (nn : Nat))] h fun v51_87 h =>
ldD .one (ptr b 2) h = some (.map (some mo)) ∧
ldD (.agg 2) (ptr bi 0) h = some id.agg ∧
kv (buildD (.struct [(.slice none 0 0), (.slice none 0 0), (.map none), (.bool false), (.bool false), (.map none), (.slice none 0 0)] [(0, 1), (1, 1), (2, 1), (3, 1), (4, 1), (5, 1), (6, 1)]) [(0, v45_81), (1, v51_87), (2, v52_86), (5, v53_80)]) fun v54_88 =>
kP (newD none v54_88 h) fun v55_89 h =>
ldD .one (ptr b 2) h = some (.map (some mo)) ∧
ldD (.agg 2) (ptr bi 0) h = some id.agg ∧
kH (mapUpdateD (some ((.struct false [(0, .int), (1, .int)]), (some (.pointer none)))) (.map (some mo)) id.agg v55_89 h) fun _ h =>
K h)) ∧
(kP (makeMapD true none h) fun v52_90 h =>
ldD .one (ptr b 2) h = some (.map (some mo)) ∧
ldD (.agg 2) (ptr bi 0) h = some id.agg ∧
ldD .one (ptr b 0) h = some (i64 (nn : Nat)) ∧
cl (Go.Abs.F.slices_Clone_Sapi_Op_api_Op E) [a2] h fun v45_91 h =>
ldD .one (ptr b 2) h = some (.map (some mo)) ∧
ldD (.agg 2) (ptr bi 0) h = some id.agg ∧
ldD .one (ptr b 0) h = some (i64 (nn : Nat)) ∧
cl (Go.Abs.F.op_Parts E) [a2, (i64 (nn : Nat))] h fun v51_92 h =>
ldD .one (ptr b 2) h = some (.map (some mo)) ∧
ldD (.agg 2) (ptr bi 0) h = some id.agg ∧
kv (buildD (.struct [(.slice none 0 0), (.slice none 0 0), (.map none), (.bool false), (.bool false), (.map none), (.slice none 0 0)] [(0, 1), (1, 1), (2, 1), (3, 1), (4, 1), (5, 1), (6, 1)]) [(0, v45_91), (1, v51_92), (2, v52_90), (5, v53_80)]) fun v54_93 =>
kP (newD none v54_93 h) fun v55_94 h =>
ldD .one (ptr b 2) h = some (.map (some mo)) ∧
ldD (.agg 2) (ptr bi 0) h = some id.agg ∧
kH (mapUpdateD (some ((.struct false [(0, .int), (1, .int)]), (some (.pointer none)))) (.map (some mo)) id.agg v55_94 h) fun _ h =>
K h)) := by
 have em : ∀ h : AHeap, makeMapD true none h = some (.map (some h.next), h.new (.map [] 0)) := fun _ => rfl
 have side : ∀ {g : AHeap} {M : List Pl}, Sep F g M → plBox b [i64 (nn : Nat), .map (some ml), .map (some mo), .map (some mk)] 4 ∈ M → plBox bi (cId id) 2 ∈ M → ldD .one (ptr b 2) g = some (.map (some mo)) ∧ ldD (.agg 2) (ptr bi 0) g = some id.agg ∧ ldD .one (ptr b 0) g = some (i64 (nn : Nat)) := fun s h1 h2 => by
  have gb := s.getM h1
  have gi := s.getM h2
  exact ⟨by rw [ld_one, rd_of gb 2]; rfl, ld2 gi, by rw [ld_one, rd_of gb 0]; rfl⟩
 refine ⟨?_, ?_⟩
 · refine ⟨?_, ?_⟩
   · obtain ⟨fo, qo⟩ := s.memP (A := plOps a2 ops) (by simp)
     refine cl_then (clone_ops qo (by omega)) ?_
     rintro vC g ⟨fC, qC, mC⟩
     have s := s.alloc (plOps vC ops) mC qC
     refine ⟨(side s (by simp) (by simp)).1, ?_⟩
     refine ⟨(side s (by simp) (by simp)).2.1, ?_⟩
     refine ⟨(side s (by simp) (by simp)).2.2, ?_⟩
     refine ⟨?_, ?_⟩
     · refine ⟨?_, ?_⟩
       · refine cl_then (op_Parts_ok hn hl hz (s.re7 [3, 0, 1, 2, 4, 5, 6] rfl)) ?_
         intro vP g s
         have s := s.re8 [0, 2, 3, 4, 1, 5, 6, 7] rfl
         refine ⟨(side s (by simp) (by simp)).1, ?_⟩
         refine ⟨(side s (by simp) (by simp)).2.1, ?_⟩
         refine ⟨?_, ?_⟩
         · rw [em, kP_some]
           have s := s.newM (D := kdInt) (A := vtV)
           generalize AHeap.new _ _ = g at s ⊢
           generalize AHeap.next _ = mA at s ⊢
           refine ⟨(side s (by simp) (by simp)).1, ?_⟩
           refine ⟨(side s (by simp) (by simp)).2.1, ?_⟩
           refine ⟨(side s (by simp) (by simp)).2.2, ?_⟩
           rw [em, kP_some]
           have s := s.newM (D := kdInt) (A := dnV)
           generalize AHeap.new _ _ = g at s ⊢
           generalize AHeap.next _ = mB at s ⊢
           refine ⟨(side s (by simp) (by simp)).1, ?_⟩
           refine ⟨(side s (by simp) (by simp)).2.1, ?_⟩
           refine ⟨(side s (by simp) (by simp)).2.2, ?_⟩
           exact begin_fin (s.re10 [3, 2, 1, 0, 4, 5, 6, 7, 8, 9] rfl) hK
         · rw [em, kP_some]
           have s := s.newM (D := kdInt) (A := dnV)
           generalize AHeap.new _ _ = g at s ⊢
           generalize AHeap.next _ = mB at s ⊢
           refine ⟨(side s (by simp) (by simp)).1, ?_⟩
           refine ⟨(side s (by simp) (by simp)).2.1, ?_⟩
           refine ⟨(side s (by simp) (by simp)).2.2, ?_⟩
           rw [em, kP_some]
           have s := s.newM (D := kdInt) (A := vtV)
           generalize AHeap.new _ _ = g at s ⊢
           generalize AHeap.next _ = mA at s ⊢
           refine ⟨(side s (by simp) (by simp)).1, ?_⟩
           refine ⟨(side s (by simp) (by simp)).2.1, ?_⟩
           refine ⟨(side s (by simp) (by simp)).2.2, ?_⟩
           exact begin_fin (s.re10 [3, 2, 0, 1, 4, 5, 6, 7, 8, 9] rfl) hK
       · rw [em, kP_some]
         have s := s.newM (D := kdInt) (A := vtV)
         generalize AHeap.new _ _ = g at s ⊢
         generalize AHeap.next _ = mA at s ⊢
         refine ⟨(side s (by simp) (by simp)).1, ?_⟩
         refine ⟨(side s (by simp) (by simp)).2.1, ?_⟩
         refine ⟨(side s (by simp) (by simp)).2.2, ?_⟩
         refine ⟨?_, ?_⟩
         · refine cl_then (op_Parts_ok hn hl hz (s.re8 [4, 0, 1, 2, 3, 5, 6, 7] rfl)) ?_
           intro vP g s
           have s := s.re9 [0, 2, 3, 4, 5, 1, 6, 7, 8] rfl
           refine ⟨(side s (by simp) (by simp)).1, ?_⟩
           refine ⟨(side s (by simp) (by simp)).2.1, ?_⟩
           rw [em, kP_some]
           have s := s.newM (D := kdInt) (A := dnV)
           generalize AHeap.new _ _ = g at s ⊢
           generalize AHeap.next _ = mB at s ⊢
           refine ⟨(side s (by simp) (by simp)).1, ?_⟩
           refine ⟨(side s (by simp) (by simp)).2.1, ?_⟩
           refine ⟨(side s (by simp) (by simp)).2.2, ?_⟩
           exact begin_fin (s.re10 [3, 1, 2, 0, 4, 5, 6, 7, 8, 9] rfl) hK
         · rw [em, kP_some]
           have s := s.newM (D := kdInt) (A := dnV)
           generalize AHeap.new _ _ = g at s ⊢
           generalize AHeap.next _ = mB at s ⊢
           refine ⟨(side s (by simp) (by simp)).1, ?_⟩
           refine ⟨(side s (by simp) (by simp)).2.1, ?_⟩
           refine ⟨(side s (by simp) (by simp)).2.2, ?_⟩
           refine cl_then (op_Parts_ok hn hl hz (s.re9 [5, 0, 1, 2, 3, 4, 6, 7, 8] rfl)) ?_
           intro vP g s
           have s := s.re10 [0, 2, 3, 4, 5, 6, 1, 7, 8, 9] rfl
           refine ⟨(side s (by simp) (by simp)).1, ?_⟩
           refine ⟨(side s (by simp) (by simp)).2.1, ?_⟩
           exact begin_fin (s.re10 [3, 0, 2, 1, 4, 5, 6, 7, 8, 9] rfl) hK
     · rw [em, kP_some]
       have s := s.newM (D := kdInt) (A := dnV)
       generalize AHeap.new _ _ = g at s ⊢
       generalize AHeap.next _ = mB at s ⊢
       refine ⟨(side s (by simp) (by simp)).1, ?_⟩
       refine ⟨(side s (by simp) (by simp)).2.1, ?_⟩
       refine ⟨(side s (by simp) (by simp)).2.2, ?_⟩
       refine ⟨?_, ?_⟩
       · refine cl_then (op_Parts_ok hn hl hz (s.re8 [4, 0, 1, 2, 3, 5, 6, 7] rfl)) ?_
         intro vP g s
         have s := s.re9 [0, 2, 3, 4, 5, 1, 6, 7, 8] rfl
         refine ⟨(side s (by simp) (by simp)).1, ?_⟩
         refine ⟨(side s (by simp) (by simp)).2.1, ?_⟩
         rw [em, kP_some]
         have s := s.newM (D := kdInt) (A := vtV)
         generalize AHeap.new _ _ = g at s ⊢
         generalize AHeap.next _ = mA at s ⊢
         refine ⟨(side s (by simp) (by simp)).1, ?_⟩
         refine ⟨(side s (by simp) (by simp)).2.1, ?_⟩
         refine ⟨(side s (by simp) (by simp)).2.2, ?_⟩
         exact begin_fin (s.re10 [3, 1, 0, 2, 4, 5, 6, 7, 8, 9] rfl) hK
       · rw [em, kP_some]
         have s := s.newM (D := kdInt) (A := vtV)
         generalize AHeap.new _ _ = g at s ⊢
         generalize AHeap.next _ = mA at s ⊢
         refine ⟨(side s (by simp) (by simp)).1, ?_⟩
         refine ⟨(side s (by simp) (by simp)).2.1, ?_⟩
         refine ⟨(side s (by simp) (by simp)).2.2, ?_⟩
         refine cl_then (op_Parts_ok hn hl hz (s.re9 [5, 0, 1, 2, 3, 4, 6, 7, 8] rfl)) ?_
         intro vP g s
         have s := s.re10 [0, 2, 3, 4, 5, 6, 1, 7, 8, 9] rfl
         refine ⟨(side s (by simp) (by simp)).1, ?_⟩
         refine ⟨(side s (by simp) (by simp)).2.1, ?_⟩
         exact begin_fin (s.re10 [3, 0, 1, 2, 4, 5, 6, 7, 8, 9] rfl) hK
   · rw [em, kP_some]
     have s := s.newM (D := kdInt) (A := vtV)
     generalize AHeap.new _ _ = g at s ⊢
     generalize AHeap.next _ = mA at s ⊢
     refine ⟨(side s (by simp) (by simp)).1, ?_⟩
     refine ⟨(side s (by simp) (by simp)).2.1, ?_⟩
     refine ⟨(side s (by simp) (by simp)).2.2, ?_⟩
     refine ⟨?_, ?_⟩
     · obtain ⟨fo, qo⟩ := s.memP (A := plOps a2 ops) (by simp)
       refine cl_then (clone_ops qo (by omega)) ?_
       rintro vC g ⟨fC, qC, mC⟩
       have s := s.alloc (plOps vC ops) mC qC
       refine ⟨(side s (by simp) (by simp)).1, ?_⟩
       refine ⟨(side s (by simp) (by simp)).2.1, ?_⟩
       refine ⟨(side s (by simp) (by simp)).2.2, ?_⟩
       refine ⟨?_, ?_⟩
       · refine cl_then (op_Parts_ok hn hl hz (s.re8 [4, 0, 1, 2, 3, 5, 6, 7] rfl)) ?_
         intro vP g s
         have s := s.re9 [0, 2, 3, 4, 5, 1, 6, 7, 8] rfl
         refine ⟨(side s (by simp) (by simp)).1, ?_⟩
         refine ⟨(side s (by simp) (by simp)).2.1, ?_⟩
         rw [em, kP_some]
         have s := s.newM (D := kdInt) (A := dnV)
         generalize AHeap.new _ _ = g at s ⊢
         generalize AHeap.next _ = mB at s ⊢
         refine ⟨(side s (by simp) (by simp)).1, ?_⟩
         refine ⟨(side s (by simp) (by simp)).2.1, ?_⟩
         refine ⟨(side s (by simp) (by simp)).2.2, ?_⟩
         exact begin_fin (s.re10 [2, 1, 3, 0, 4, 5, 6, 7, 8, 9] rfl) hK
       · rw [em, kP_some]
         have s := s.newM (D := kdInt) (A := dnV)
         generalize AHeap.new _ _ = g at s ⊢
         generalize AHeap.next _ = mB at s ⊢
         refine ⟨(side s (by simp) (by simp)).1, ?_⟩
         refine ⟨(side s (by simp) (by simp)).2.1, ?_⟩
         refine ⟨(side s (by simp) (by simp)).2.2, ?_⟩
         refine cl_then (op_Parts_ok hn hl hz (s.re9 [5, 0, 1, 2, 3, 4, 6, 7, 8] rfl)) ?_
         intro vP g s
         have s := s.re10 [0, 2, 3, 4, 5, 6, 1, 7, 8, 9] rfl
         refine ⟨(side s (by simp) (by simp)).1, ?_⟩
         refine ⟨(side s (by simp) (by simp)).2.1, ?_⟩
         exact begin_fin (s.re10 [2, 0, 3, 1, 4, 5, 6, 7, 8, 9] rfl) hK
     · rw [em, kP_some]
       have s := s.newM (D := kdInt) (A := dnV)
       generalize AHeap.new _ _ = g at s ⊢
       generalize AHeap.next _ = mB at s ⊢
       refine ⟨(side s (by simp) (by simp)).1, ?_⟩
       refine ⟨(side s (by simp) (by simp)).2.1, ?_⟩
       refine ⟨(side s (by simp) (by simp)).2.2, ?_⟩
       obtain ⟨fo, qo⟩ := s.memP (A := plOps a2 ops) (by simp)
       refine cl_then (clone_ops qo (by omega)) ?_
       rintro vC g ⟨fC, qC, mC⟩
       have s := s.alloc (plOps vC ops) mC qC
       refine ⟨(side s (by simp) (by simp)).1, ?_⟩
       refine ⟨(side s (by simp) (by simp)).2.1, ?_⟩
       refine ⟨(side s (by simp) (by simp)).2.2, ?_⟩
       refine cl_then (op_Parts_ok hn hl hz (s.re9 [5, 0, 1, 2, 3, 4, 6, 7, 8] rfl)) ?_
       intro vP g s
       have s := s.re10 [0, 2, 3, 4, 5, 6, 1, 7, 8, 9] rfl
       refine ⟨(side s (by simp) (by simp)).1, ?_⟩
       refine ⟨(side s (by simp) (by simp)).2.1, ?_⟩
       exact begin_fin (s.re10 [1, 0, 3, 2, 4, 5, 6, 7, 8, 9] rfl) hK
 · rw [em, kP_some]
   have s := s.newM (D := kdInt) (A := dnV)
   generalize AHeap.new _ _ = g at s ⊢
   generalize AHeap.next _ = mB at s ⊢
   refine ⟨(side s (by simp) (by simp)).1, ?_⟩
   refine ⟨(side s (by simp) (by simp)).2.1, ?_⟩
   refine ⟨(side s (by simp) (by simp)).2.2, ?_⟩
   refine ⟨?_, ?_⟩
   · obtain ⟨fo, qo⟩ := s.memP (A := plOps a2 ops) (by simp)
     refine cl_then (clone_ops qo (by omega)) ?_
     rintro vC g ⟨fC, qC, mC⟩
     have s := s.alloc (plOps vC ops) mC qC
     refine ⟨(side s (by simp) (by simp)).1, ?_⟩
     refine ⟨(side s (by simp) (by simp)).2.1, ?_⟩
     refine ⟨(side s (by simp) (by simp)).2.2, ?_⟩
     refine ⟨?_, ?_⟩
     · refine cl_then (op_Parts_ok hn hl hz (s.re8 [4, 0, 1, 2, 3, 5, 6, 7] rfl)) ?_
       intro vP g s
       have s := s.re9 [0, 2, 3, 4, 5, 1, 6, 7, 8] rfl
       refine ⟨(side s (by simp) (by simp)).1, ?_⟩
       refine ⟨(side s (by simp) (by simp)).2.1, ?_⟩
       rw [em, kP_some]
       have s := s.newM (D := kdInt) (A := vtV)
       generalize AHeap.new _ _ = g at s ⊢
       generalize AHeap.next _ = mA at s ⊢
       refine ⟨(side s (by simp) (by simp)).1, ?_⟩
       refine ⟨(side s (by simp) (by simp)).2.1, ?_⟩
       refine ⟨(side s (by simp) (by simp)).2.2, ?_⟩
       exact begin_fin (s.re10 [2, 1, 0, 3, 4, 5, 6, 7, 8, 9] rfl) hK
     · rw [em, kP_some]
       have s := s.newM (D := kdInt) (A := vtV)
       generalize AHeap.new _ _ = g at s ⊢
       generalize AHeap.next _ = mA at s ⊢
       refine ⟨(side s (by simp) (by simp)).1, ?_⟩
       refine ⟨(side s (by simp) (by simp)).2.1, ?_⟩
       refine ⟨(side s (by simp) (by simp)).2.2, ?_⟩
       refine cl_then (op_Parts_ok hn hl hz (s.re9 [5, 0, 1, 2, 3, 4, 6, 7, 8] rfl)) ?_
       intro vP g s
       have s := s.re10 [0, 2, 3, 4, 5, 6, 1, 7, 8, 9] rfl
       refine ⟨(side s (by simp) (by simp)).1, ?_⟩
       refine ⟨(side s (by simp) (by simp)).2.1, ?_⟩
       exact begin_fin (s.re10 [2, 0, 1, 3, 4, 5, 6, 7, 8, 9] rfl) hK
   · rw [em, kP_some]
     have s := s.newM (D := kdInt) (A := vtV)
     generalize AHeap.new _ _ = g at s ⊢
     generalize AHeap.next _ = mA at s ⊢
     refine ⟨(side s (by simp) (by simp)).1, ?_⟩
     refine ⟨(side s (by simp) (by simp)).2.1, ?_⟩
     refine ⟨(side s (by simp) (by simp)).2.2, ?_⟩
     obtain ⟨fo, qo⟩ := s.memP (A := plOps a2 ops) (by simp)
     refine cl_then (clone_ops qo (by omega)) ?_
     rintro vC g ⟨fC, qC, mC⟩
     have s := s.alloc (plOps vC ops) mC qC
     refine ⟨(side s (by simp) (by simp)).1, ?_⟩
     refine ⟨(side s (by simp) (by simp)).2.1, ?_⟩
     refine ⟨(side s (by simp) (by simp)).2.2, ?_⟩
     refine cl_then (op_Parts_ok hn hl hz (s.re9 [5, 0, 1, 2, 3, 4, 6, 7, 8] rfl)) ?_
     intro vP g s
     have s := s.re10 [0, 2, 3, 4, 5, 6, 1, 7, 8, 9] rfl
     refine ⟨(side s (by simp) (by simp)).1, ?_⟩
     refine ⟨(side s (by simp) (by simp)).2.1, ?_⟩
     exact begin_fin (s.re10 [1, 0, 2, 3, 4, 5, 6, 7, 8, 9] rfl) hK
end Go.Abs
namespace Go.Abs
open Go Go.Proofs
variable {E : FE} {F : Fr} {h : AHeap} {L : List Pl}
set_option maxHeartbeats 2000000 in
theorem desk_Begin (oe : OpE E) {p a2 : V} {d : DeskM} {nn : Nat} (hd : d.n = (nn : Nat)) (hn : 1 ≤ nn ∧ nn ≤ 3) (id : IdM) {ops : List Oq} (hl : ops.length ≤ 1000000) (hz : ∀ o ∈ ops, o.space.size ≤ maxLen)
 (s : Sep F h (plDsk p d :: plOps a2 ops :: L)) : cl (Go.Abs.F.desk_Desk_Begin E) [p, id.agg, a2] h fun r h' => r = .bool (beginV d id ops).1 ∧ Sep F h' (plDsk p (beginV d id ops).2 :: plOps a2 ops :: L) := by
 refine cl_of ?_
 obtain ⟨b, ml, mo, mk, rfl, s0⟩ := s.openDsk
 clear s
 simp only [Go.Abs.F.desk_Desk_Begin, new2, kP_some, ptr_eq_nil, kv_some, gdV_bool, if_true]
 have s1 := s0.box (cId id) 2
 clear s0
 generalize h.new (.cells (cId id) 2 .rw) = h1 at s1 ⊢
 generalize h.next = bi at s1 ⊢
 rw [ld2 s1.get, kv_some]
 refine gdC_yes rfl (cl_then (op_Client_ok id s1) ?_)
 rintro r h2 ⟨rfl, s2⟩
 clear s1
 have back : ∀ {g : AHeap}, Sep F g (plBox bi (cId id) 2 :: plBox b [i64 d.n, .map (some ml), .map (some mo), .map (some mk)] 4 :: plGM kdInt lsV ml d.last :: plGM kdId trV mo d.opn :: plGM kdInt anV mk d.kept :: plOps a2 ops :: L) → Sep F g (plDsk (ptr b 0) d :: plOps a2 ops :: L) := fun s => Sep.closeDsk s.drop
 simp only [not_bool, kv_some, pickV_bool, Bool.false_eq_true, if_false]
 unfold beginV
 cases hc : clientB id with
 | false =>
  simp only [Bool.not_false, gdV_bool, Bool.true_eq_false, if_false, kv_some, Bool.false_and, Bool.false_eq_true]
  refine gdC_no (by decide) ?_
  simp only [kv_some, pickV_bool, if_true, gdV_bool, Bool.true_eq_false, if_false, ifV_bool]
  exact ⟨trivial, back s2⟩
 | true =>
 simp only [Bool.not_true, gdV_bool, if_true, kv_some]
 obtain ⟨fo, qo⟩ := s2.memP (A := plOps a2 ops) (by simp)
 refine gdC_yes rfl (cl_then (op_All oe qo hl hz) ?_)
 rintro r h3 ⟨rfl, m3⟩
 have s3 := s2.skip m3
 clear s2 qo
 simp only [not_bool, kv_some, pickV_bool, Bool.false_eq_true, if_false]
 cases ha : allO ops with
 | false =>
  simp only [Bool.not_false, gdV_bool, Bool.true_eq_false, if_false, kv_some, Bool.and_false, Bool.false_and, Bool.false_eq_true, pickV_bool, if_true, ifV_bool]
  exact ⟨trivial, back s3⟩
 | true =>
 have r1 : h3.rd bi 1 = some (i64 id.seq) := by rw [rd_of s3.get 1]; rfl
 have r0 : h3.rd bi 0 = some (i64 id.client) := by rw [rd_of s3.get 0]; rfl
 have gb := Sep.get s3.up1
 have b1 : h3.rd b 1 = some (.map (some ml)) := by rw [rd_of gb 1]; rfl
 have b2 : h3.rd b 2 = some (.map (some mo)) := by rw [rd_of gb 2]; rfl
 simp only [Bool.not_true, gdV_bool, if_true, fieldAddr_ptr, kv_some, ld_one, Nat.zero_add, r1, r0, aNil_ptr, b1, Sep.lookL s3.up2 id.client, bin_leq, pickV_bool, Bool.false_eq_true, if_false, ifV_bool, decide_eq_true_eq]
 by_cases hq : id.seq ≤ (lkp id.client d.last).getD 0
 · rw [if_pos hq]
   have : ¬ (lkp id.client d.last).getD 0 < id.seq := by omega
   simp only [this, decide_false, Bool.and_false, Bool.false_eq_true, if_false]
   exact ⟨trivial, back s3⟩
 rw [if_neg hq]
 have hq' : (lkp id.client d.last).getD 0 < id.seq := by omega
 simp only [hq', decide_true, Bool.and_self, if_true]
 obtain ⟨h4, e4, s4⟩ := Sep.insM (D := kdInt) (A := lsV) (k := id.client) (v := i64 id.seq) (x := id.seq) (z := .int .i64 0) (Sep.up1 (Sep.mkPure (φ := (i64 id.seq : V) = i64 id.seq) rfl s3.up2))
 have e4 : mapUpdateD (some (.int, (some (.int .i64 0)))) (.map (some ml)) (i64 id.client) (i64 id.seq) h3 = some h4 := e4
 rw [e4, kH_some]
 have gb4 := Sep.get (s4.re6 [2] rfl)
 have c2 : h4.rd b 2 = some (.map (some mo)) := by rw [rd_of gb4 2]; rfl
 have c0 : h4.rd b 0 = some (i64 d.n) := by rw [rd_of gb4 0]; rfl
 have i4 : ldD (.agg 2) (ptr bi 0) h4 = some id.agg := ld2 (Sep.get s4.up1)
 have c2' : ldD .one (ptr b 2) h4 = some (.map (some mo)) := by rw [ld_one]; exact c2
 have c0' : ldD .one (ptr b 0) h4 = some (i64 d.n) := by rw [ld_one]; exact c0
 simp only [aNil_ptr, kv_some, fieldAddr_ptr, Nat.zero_add, c2, c0, i4]
 have hal := allF ha
 have hz9 : ∀ o ∈ ops, o.space.size ≤ 1000000000 := fun o ho => by
  have := hz o ho
  have h20 := (mayF (hal.2.2 o ho)).sp.2
  omega
 have hnn : d.n.toNat = nn := by rw [hd]; rfl
 rw [hnn, hd]
 rw [hd] at s4
 have s5 : Sep F h4 (plBox bi (cId id) 2 :: plBox b [i64 (nn : Nat), .map (some ml), .map (some mo), .map (some mk)] 4 :: plOps a2 ops :: plGM kdId trV mo d.opn :: plGM kdInt lsV ml (ins id.client id.seq d.last) :: plGM kdInt anV mk d.kept :: L) := s4.re6 [1, 2, 5, 3, 0, 4] rfl
 refine begin_tree hn (by omega) hz9 s5 ?_
 intro h' s'
 exact ⟨trivial, s'⟩
end Go.Abs

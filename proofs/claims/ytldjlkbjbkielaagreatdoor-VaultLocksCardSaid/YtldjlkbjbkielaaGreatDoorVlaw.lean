/- Specs on abstract heaps, part 24: numbers as texts. -/
import Derived.Test.YtldjlkbjbkielaaGreatDoorVlau
import Derived.Test.YtldjlkbjbkielaaGreatDoorVlav
import Derived.Test.YtldjlkbjbkielaaGreatDoorVlas
set_option linter.unusedSimpArgs false
set_option linter.unusedVariables false
namespace Go.Abs
open Go Go.Proofs
variable {E : FE} {h : AHeap}
def decT (n : Nat) : ByteArray := ⟨(Lib.decDigits n).toArray⟩
theorem dec_len : ∀ n : Nat, (Lib.decDigits n).length ≤ n + 1 := by
 intro n
 induction n using Nat.strongRecOn with
 | _ n ih =>
  rw [Lib.decDigits]
  split
  · simp
  · have := ih (n / 10) (by omega)
    simp only [List.length_append, List.length_cons, List.length_nil]
    omega
theorem decT_size (n : Nat) : (decT n).size ≤ n + 1 := by
 have := dec_len n
 simpa [decT, ByteArray.size] using this
theorem str_add (k : EqK) (c : Bool) (a b : ByteArray) (hs : a.size + b.size ≤ 9223372036854775807) {h : AHeap} : binD k .add c (str a) (str b) h = some (str (a ++ b)) := by
 rw [bin_str]
 show (if ((a.size + b.size : Nat) : Int) > IntKind.i64.max then none else some (Value.string (a ++ b))) = _
 rw [if_neg]
 have : IntKind.i64.max = 9223372036854775807 := by rfl
 rw [this]
 omega
theorem space_text (n : Nat) (hn : n ≤ 9223372036854775807) : cl (Go.Abs.F.space_text E) [i64 n] h fun r h' => h' = h ∧ r = str (decT n) := by
 refine cl_of ?_
 simp only [Go.Abs.F.space_text]
 refine cl_of ⟨by omega, by omega, rfl, ?_⟩
 unfold Lib.itoa
 rw [if_neg (by omega)]
 rfl
end Go.Abs
namespace Go.Abs
open Go Go.Proofs
variable {E : FE} {h h' : AHeap} {fp : List Nat} {p : V}
structure Oq where
 fn : Int
 space : ByteArray
 key : ByteArray
 val : ByteArray
 n : Int
 deriving Inhabited
def Oq.cells (o : Oq) : List V := [i64 o.fn, str o.space, str o.key, str o.val, i64 o.n]
abbrev Oq.agg (o : Oq) : V := .agg #[i64 o.fn, str o.space, str o.key, str o.val, i64 o.n]
theorem new5 (o : Oq) : newD none o.agg h = some (ptr h.next 0, h.new (.cells o.cells 5 .rw)) := rfl
theorem ld5 {b : Nat} {o : Oq} (hb : h.get b = some (.cells o.cells 5 .rw)) : ldD (.agg 5) (ptr b 0) h = some o.agg := by
 simp only [ld_agg, rdN_of hb]
 rfl
def Spa (h : AHeap) (fp : List Nat) (p : V) (cs : List V) (A : Pl) : Prop :=
 ∃ b f, p = ptr b 0 ∧ fp = b :: f ∧ b < h.next ∧ h.get b = some (.cells cs 4 .rw) ∧ A.P h f ∧ b ∉ f
variable {cs : List V} {A A' : Pl}
theorem Spa.lt (s : Spa h fp p cs A) : ∀ x ∈ fp, x < h.next := by
 obtain ⟨b, f, rfl, rfl, hb, _, hA, _⟩ := s
 intro x hx
 rcases List.mem_cons.1 hx with rfl | hx
 · exact hb
 · exact A.lt _ _ hA x hx
theorem Spa.same (s : Spa h fp p cs A) (hl : h.next ≤ h'.next) (hs : ∀ x ∈ fp, h'.get x = h.get x) : Spa h' fp p cs A := by
 obtain ⟨b, f, rfl, rfl, hb, hg, hA, hn⟩ := s
 exact ⟨b, f, rfl, rfl, by omega, by rw [hs b (by simp), hg], A.same _ _ _ hA hl fun x hx => hs x (by simp [hx]), hn⟩
theorem Spa.keep {fp' : List Nat} (s : Spa h fp p cs A) (m : Mod h [] h' fp') : Spa h' fp p cs A := s.same m.next fun x hx => m.same x (s.lt x hx) (by simp)
theorem Spa.open (s : Spa h fp p cs A) : ∃ b f, p = ptr b 0 ∧ fp = b :: f ∧ h.get b = some (.cells cs 4 .rw) ∧ A.P h f ∧
 ∀ {h' : AHeap} {f' : List Nat} (A' : Pl), Mod h f h' f' → A'.P h' f' → Spa h' (b :: f') p cs A' ∧ Mod h fp h' (b :: f') := by
 obtain ⟨b, f, rfl, rfl, hb, hg, hA, hn⟩ := s
 refine ⟨b, f, rfl, rfl, hg, hA, fun {h' f'} A' m hA' => ⟨⟨b, f', rfl, rfl, by have := m.next; omega, by rw [m.same b hb hn, hg], hA', fun hx => ?_⟩, m.next, fun x hx hnx => ?_, fun x hx => ?_, fun x hx => ?_⟩⟩
 · rcases m.new b hx with h1 | h1
   · exact hn h1
   · omega
 · simp only [List.mem_cons, not_or] at hnx
   exact m.same x hx hnx.2
 · rcases List.mem_cons.1 hx with rfl | hx
   · simp
   · rcases m.new x hx with h1 | h1
     · simp [h1]
     · exact .inr h1
 · rcases List.mem_cons.1 hx with rfl | hx
   · have := m.next; omega
   · exact m.lt x hx
def plTo (p : V) (l : List ByteArray) (g : List En) : Pl := ⟨fun h f => To h f p l g, fun _ _ q => q.lt, fun _ _ _ q hl hs => q.same hl hs⟩
abbrev cTo (pt : V) : List V := [i64 3, nil, nil, pt]
abbrev cQu (pt : V) : List V := [i64 2, nil, pt, nil]
abbrev cTab (pt : V) : List V := [i64 1, pt, nil, nil]
theorem Mod.box0 (o : AObj) : Mod h [] (h.new o) [] := Mod.newBox (by simp)
theorem Do_topic {pt : V} (s : Spa h fp p (cTo pt) A) (o : Oq) (now : V) (ho : 10 ≤ o.fn ∧ o.fn ≤ 12) {P : V → AHeap → Prop}
 (hs : ∀ h1, Mod h [] h1 [] → cl (Go.Abs.F.space_Space_topic E) [p, o.agg] h1 fun r h' => ∃ x y, r = .tuple #[x, y] ∧ P (.tuple #[x, y]) h') : cl (Go.Abs.F.space_Space_Do E) [p, o.agg, now] h P := by
 refine cl_of ?_
 have m0 : Mod h [] (h.new (.cells o.cells 5 .rw)) [] := Mod.box0 _
 have g0 : (h.new (.cells o.cells 5 .rw)).get h.next = some (.cells o.cells 5 .rw) := by simp
 have s0 := s.keep m0
 have hk := hs _ m0
 simp only [Go.Abs.F.space_Space_Do, new5, kP_some]
 generalize h.new (.cells o.cells 5 .rw) = g at m0 g0 s0 hk ⊢
 generalize h.next = bx at g0 ⊢
 obtain ⟨b, f, rfl, rfl, hg, hA, up⟩ := s0.open
 have a1 : decide (o.fn ≥ 10) = true := by simp; omega
 have a2 : decide (o.fn ≤ 12) = true := by simp; omega
 have r0 : g.rd bx 0 = some (i64 o.fn) := rd_of g0 0
 simp only [ptr_eq_nil, kv_some, ifV_bool, Bool.false_eq_true, if_false, aNil_ptr, fieldAddr_ptr, ld_one, Nat.zero_add, rd_of hg, List.getElem?_cons_zero, bin_eql, show ((3 : Int) == 1) = false from rfl, show ((3 : Int) == 2) = false from rfl, show ((3 : Int) == 3) = true from rfl,
  gdV_bool, gdV_gone, pickV_bool, if_true, r0, bin_geq, bin_leq, a1, a2, ld5 g0]
 refine cl_then hk ?_
 rintro r h2 ⟨x, y, rfl, hP⟩
 simp only [extract_tuple, List.getElem?_toArray, List.getElem?_cons_zero, List.getElem?_cons_succ, kv_some]
 exact hP
theorem Do_pub {pt : V} {l : List ByteArray} {g : List En} (s : Spa h fp p (cTo pt) (plTo pt l g)) (o : Oq) (ho : o.fn = 10) (hsz : l.length ≤ 1000000) :
 cl (Go.Abs.F.space_Space_topic E) [p, o.agg] h fun r h' =>
  if l.length < 64 then r = .tuple #[str (decT l.length), i64 0] ∧ ∃ fp', Spa h' fp' p (cTo pt) (plTo pt (l ++ [o.val]) g) ∧ Mod h fp h' fp'
  else r = .tuple #[str ⟨#[]⟩, i64 6] ∧ Mod h [] h' [] := by
 refine cl_of ?_
 have m0 : Mod h [] (h.new (.cells o.cells 5 .rw)) [] := Mod.box0 _
 have m0' : Mod h fp (h.new (.cells o.cells 5 .rw)) fp := Mod.newBox s.lt
 have g0 : (h.new (.cells o.cells 5 .rw)).get h.next = some (.cells o.cells 5 .rw) := by simp
 have s0 := s.keep m0
 simp only [Go.Abs.F.space_Space_topic, new5, kP_some]
 generalize h.new (.cells o.cells 5 .rw) = h1 at m0 m0' g0 s0 ⊢
 generalize h.next = bx at g0 ⊢
 obtain ⟨b, f, rfl, rfl, hg, hA, up⟩ := s0.open
 have r0 : h1.rd bx 0 = some (i64 o.fn) := rd_of g0 0
 have r3 : h1.rd bx 3 = some (str o.val) := rd_of g0 3
 simp only [kv_some, fieldAddr_ptr, ld_one, Nat.zero_add, r0, bin_eql, ho, beq_self_eq_true, ifV_bool, if_true, aNil_ptr, rd_of hg, List.getElem?_cons_zero, List.getElem?_cons_succ, r3]
 refine cl_then (topic_Pub hA o.val hsz) ?_
 rintro r h2 hr
 by_cases hl : l.length < 64
 · rw [if_pos hl] at hr
   obtain ⟨rfl, f', t', m'⟩ := hr
   simp only [extract_tuple, List.getElem?_toArray, List.getElem?_cons_zero, List.getElem?_cons_succ, kv_some, not_bool, Bool.not_true, ifV_bool, Bool.false_eq_true, if_false]
   refine cl_then (space_text l.length (by omega)) ?_
   rintro r h3 ⟨rfl, rfl⟩
   rw [if_pos hl]
   obtain ⟨q1, q2⟩ := up (plTo pt (l ++ [o.val]) g) m' t'
   exact ⟨rfl, _, q1, m0'.trans q2⟩
 · rw [if_neg hl] at hr
   obtain ⟨rfl, rfl⟩ := hr
   simp only [extract_tuple, List.getElem?_toArray, List.getElem?_cons_zero, List.getElem?_cons_succ, kv_some, not_bool, Bool.not_false, ifV_bool, if_true]
   rw [if_neg hl]
   exact ⟨trivial, m0⟩
def encT (v : ByteArray) : ByteArray := decT v.size ++ ⟨#[58]⟩ ++ v
def fetchT (out : ByteArray) : List ByteArray → ByteArray
 | [] => out
 | v :: l => if out.size + (encT v).size > 200 then out else fetchT (out ++ encT v) l
theorem ba_size (a b : ByteArray) : (a ++ b).size = a.size + b.size := ByteArray.size_append
theorem encT_size (v : ByteArray) : (encT v).size ≤ v.size + v.size + 2 := by
 have := decT_size v.size
 unfold encT
 rw [ba_size, ba_size]
 have : (⟨#[58]⟩ : ByteArray).size = 1 := rfl
 omega
def itemsT (l : List ByteArray) (a most : Int) : List ByteArray := (l.drop a.toNat).take (min (max most 0) (l.length - a)).toNat
theorem Do_fetch {pt : V} {l : List ByteArray} {g : List En} (s : Spa h fp p (cTo pt) (plTo pt l g)) (o : Oq) (ho : o.fn = 11) (hsz : l.length ≤ 1000000) (hk : 0 ≤ atN o.key g ∧ atN o.key g ≤ l.length) (hv : ∀ v ∈ l, v.size ≤ 1152921504606846976) :
 cl (Go.Abs.F.space_Space_topic E) [p, o.agg] h fun r h' => r = .tuple #[str (fetchT ⟨#[]⟩ (itemsT l (atN o.key g) o.n)), i64 0] ∧ Mod h [] h' [] := by
 refine cl_of ?_
 have m0 : Mod h [] (h.new (.cells o.cells 5 .rw)) [] := Mod.box0 _
 have g0 : (h.new (.cells o.cells 5 .rw)).get h.next = some (.cells o.cells 5 .rw) := by simp
 have s0 := s.keep m0
 simp only [Go.Abs.F.space_Space_topic, new5, kP_some]
 generalize h.new (.cells o.cells 5 .rw) = h1 at m0 g0 s0 ⊢
 generalize h.next = bx at g0 ⊢
 obtain ⟨b, f, rfl, rfl, hg, hA, up⟩ := s0.open
 have r0 : h1.rd bx 0 = some (i64 o.fn) := rd_of g0 0
 have r2 : h1.rd bx 2 = some (str o.key) := rd_of g0 2
 have r4 : h1.rd bx 4 = some (i64 o.n) := rd_of g0 4
 simp only [kv_some, fieldAddr_ptr, ld_one, Nat.zero_add, r0, bin_eql, ho, show ((11 : Int) == 10) = false from rfl, show ((11 : Int) == 11) = true from rfl, ifV_bool, Bool.false_eq_true, if_false, if_true, aNil_ptr, rd_of hg, List.getElem?_cons_zero, List.getElem?_cons_succ, r2, r4]
 refine cl_then (topic_Fetch hA o.key hk o.n hsz) ?_
 rintro r h2 ⟨f2, t2, m2⟩
 change Ts h2 f2 r (itemsT l (atN o.key g) o.n) at t2
 have hv' : ∀ v ∈ itemsT l (atN o.key g) o.n, v.size ≤ 1152921504606846976 := fun v hx => hv v (List.mem_of_mem_drop (List.mem_of_mem_take hx))
 have hln : (itemsT l (atN o.key g) o.n).length ≤ 1000000 := by
  unfold itemsT
  rw [List.length_take, List.length_drop]
  omega
 generalize itemsT l (atN o.key g) o.n = L at t2 hv' hln ⊢
 have m2' : Mod h [] h2 [] := m0.trans ⟨m2.next, m2.same, by simp, by simp⟩
 have hlen := Sl.len t2
 simp only [hlen, kv_some]
 refine ⟨fun vs h' => vs = [str (fetchT ⟨#[]⟩ L)] ∧ h' = h2, ?_, ?_⟩
 · refine ⟨fun n vs h' => ∃ (out : ByteArray) (i : Nat), vs = [str out, i64 i] ∧ i ≤ L.length ∧ n = L.length - i ∧ out.size ≤ 200 ∧ fetchT ⟨#[]⟩ L = fetchT out (L.drop i) ∧ h' = h2, L.length, ⟨⟨#[]⟩, 0, rfl, by omega, by omega, by decide, by simp, rfl⟩, ?_⟩
   rintro n e h3 ⟨out, i, he, hi, rfl, hout, hf, rfl⟩
   simp only [List.cons.injEq, and_true] at he
   obtain ⟨e1, e2⟩ := he
   simp only [e1, e2, bin_lss, kv_some, ifV_bool]
   by_cases hx : i < L.length
   · have hx' : (i : Int) < (L.length : Nat) := by omega
     obtain ⟨bk, _, i1, i2⟩ := Sl.at t2 hx
     have i3 : h3.rd bk (i * 1) = some (str L[i]) := by
      have := i2 0 (by decide)
      rw [Nat.add_zero] at this
      rw [this, Nat.mul_one, List.getElem?_map, List.getElem?_eq_getElem hx]
      rfl
     have hvi := hv' L[i] (List.getElem_mem hx)
     have hes := encT_size L[i]
     have hds := decT_size L[i].size
     simp only [hx', decide_true, if_true, i1, kv_some, ld_one, i3]
     have ln : ∀ (x : ByteArray) (h : AHeap), lenD .str (str x) h = some (i64 (x.size : Nat)) := fun _ _ => rfl
     simp only [ln, kv_some]
     refine cl_then (space_text L[i].size (by omega)) ?_
     rintro r h4 ⟨rfl, rfl⟩
     have e58 : (⟨#[58]⟩ : ByteArray).size = 1 := rfl
     rw [str_add _ _ _ _ (by omega), kv_some, str_add _ _ _ _ (by rw [ba_size]; omega), kv_some]
     have eT : decT L[i].size ++ ⟨#[58]⟩ ++ L[i] = encT L[i] := rfl
     rw [eT]
     simp only [ln, kv_some]
     rw [add_i64 _ _ (by omega) (by omega), kv_some]
     simp only [bin_gtr, kv_some, ifV_bool]
     have hd : fetchT out (L.drop i) = if out.size + (encT L[i]).size > 200 then out else fetchT (out ++ encT L[i]) (L.drop (i + 1)) := by
      rw [List.drop_eq_getElem_cons hx]
      rfl
     rw [hd] at hf
     by_cases hb : out.size + (encT L[i]).size > 200
     · have hb' : (out.size : Int) + (encT L[i]).size > 200 := by omega
       rw [if_pos hb] at hf
       simp only [hb', decide_true, if_true]
       rw [hf]
       exact ⟨rfl, trivial⟩
     · have hb' : ¬ ((out.size : Int) + (encT L[i]).size > 200) := by omega
       rw [if_neg hb] at hf
       simp only [hb', decide_false, Bool.false_eq_true, if_false]
       rw [str_add _ _ _ _ (by omega), kv_some, add_i64 _ 1 (by omega) (by omega), kv_some]
       exact ⟨L.length - (i + 1), by omega, _, i + 1, rfl, by omega, rfl, by rw [ba_size]; omega, hf, trivial⟩
   · have hx' : ¬ (i : Int) < (L.length : Nat) := by omega
     simp only [hx', decide_false, Bool.false_eq_true, if_false]
     rw [hf, List.drop_of_length_le (by omega)]
     exact ⟨rfl, trivial⟩
 · rintro e h3 ⟨he, rfl⟩
   simp only [List.cons.injEq, and_true] at he
   rw [he]
   exact ⟨rfl, m2'⟩
end Go.Abs
namespace Go.Abs
open Go Go.Proofs
variable {E : FE} {h h' : AHeap} {fp : List Nat} {p : V} {l : List ByteArray} {g : List En}
theorem topic_Clone (t : To h fp p l g) (hsz : l.length ≤ 1000000) : cl (Go.Abs.F.topic_Topic_Clone E) [p] h fun r h' => ∃ fp', To h' fp' r l g ∧ Mod h [] h' fp' := by
 have t0 := t
 obtain ⟨b, m, fl, vl, clk, rfl, rfl, hne, hb, hm, h1, h2, h3, h4, h5, h6, h7⟩ := t
 refine cl_of ?_
 simp only [Go.Abs.F.topic_Topic_Clone, ptr_eq_nil, kv_some, ifV_bool, Bool.false_eq_true, if_false, aNil_ptr, fieldAddr_ptr, ld_one, Nat.zero_add, rd_of h1, List.getElem?_cons_zero, List.getElem?_cons_succ]
 refine cl_then (clone_strs h3 hsz) ?_
 rintro r g1 ⟨f1, s1, m1⟩
 have g1b : g1.get b = some (.cells [vl, .map (some m)] 2 .rw) := by rw [m1.same b hb (by simp), h1]
 have g1m : g1.get m = some (.map (g.map ME) clk) := by rw [m1.same m hm (by simp), h2]
 simp only [rd_of g1b, List.getElem?_cons_zero, List.getElem?_cons_succ, true_and]
 refine cl_of ?_
 simp only [Go.Abs.F.maps_Clone_map_string_int64_string_int64, map_eq_nil, kv_some, ifV_bool, Bool.false_eq_true, if_false, iface]
 refine cl_of ?_
 simp only [Go.Abs.F.maps_clone, L.clone, g1m, assertD, beq_self_eq_true, Bool.and_self, if_true, Bool.false_eq_true, if_false, kv_some]
 obtain ⟨c1, c2⟩ := Sl.cell s1
 have e1 : ∀ x : Nat, buildD (.struct [(.slice none 0 0), (.map none)] [(0, 1), (1, 1)]) [(0, r), (1, .map (some x))] = some (.agg #[r, .map (some x)]) := by
  intro x
  obtain ⟨h0, ⟨rfl, _, _⟩ | ⟨b', c, all, rfl, _⟩⟩ := s1 <;> rfl
 have e2 : ∀ (x : Nat) (g : AHeap), newD none (.agg #[r, .map (some x)]) g = some (ptr g.next 0, g.new (.cells [r, .map (some x)] 2 .rw)) := fun _ _ => rfl
 simp only [e1, e2, kv_some, kP_some]
 have n1 := m1.next
 have lt1 := s1.lt
 have new1 : ∀ x ∈ f1, h.next ≤ x := fun x hx => by rcases m1.new x hx with h | h; simp at h; exact h
 refine ⟨(g1.next + 1) :: g1.next :: f1, ⟨g1.next + 1, g1.next, f1, r, clk, by simp, rfl, by simp, by simp, by simp; omega, by simp, by simp, s1.same (by simp; omega) fun x hx => ?_, fun hx => ?_, fun hx => ?_, h6, h7⟩, by simp; omega, fun x hx _ => ?_, fun x hx => ?_, fun x hx => ?_⟩
 · have := lt1 x hx
   have a : x ≠ g1.next := by omega
   have a' : x ≠ g1.next + 1 := by omega
   simp [a, a']
 · have := lt1 _ hx; omega
 · have := lt1 _ hx; omega
 · have a : x ≠ g1.next := by omega
   have a' : x ≠ g1.next + 1 := by omega
   simp only [new_get, new_next, a, a', if_false]
   exact m1.same x hx (by simp)
 · simp only [List.mem_cons] at hx
   right
   rcases hx with rfl | rfl | hx
   · omega
   · omega
   · exact new1 x hx
 · simp only [List.mem_cons] at hx
   simp only [new_next]
   rcases hx with rfl | rfl | hx
   · omega
   · omega
   · have := lt1 x hx; omega
end Go.Abs
namespace Go.Abs
open Go Go.Proofs
variable {E : FE} {h h' : AHeap} {fp : List Nat} {p : V}
theorem Tab.isPtr {l : List En} (t : Tab h fp p l) : cellsOf p = some [p] ∧ oneCell p = true := by
 obtain ⟨b, m, clk, rfl, _⟩ := t
 exact ⟨rfl, rfl⟩
theorem To.isPtr {l : List ByteArray} {g : List En} (t : To h fp p l g) : cellsOf p = some [p] ∧ oneCell p = true := by
 obtain ⟨b, m, fl, vl, clk, rfl, _⟩ := t
 exact ⟨rfl, rfl⟩
theorem Qu.isPtr {most next : Int} {items lost : List Msg} (q : Qu h fp p most next items lost) : cellsOf p = some [p] ∧ oneCell p = true := by
 obtain ⟨b, fi, fl, vi, vl, rfl, _⟩ := q
 exact ⟨rfl, rfl⟩
theorem spa_made {A : Pl} {cs0 cs : List V} {h2 : AHeap} {f : List Nat} (m : Mod (h.new (.cells cs0 4 .rw)) [] h2 f) (hA : A.P h2 f) :
 Spa (h2.put h.next (.cells cs 4 .rw)) (h.next :: f) (ptr h.next 0) cs A ∧ Mod h [] (h2.put h.next (.cells cs 4 .rw)) (h.next :: f) := by
 have hn : h.next + 1 ≤ h2.next := by have := m.next; simpa using this
 have hf : ∀ x ∈ f, h.next + 1 ≤ x := fun x hx => by
  rcases m.new x hx with h1 | h1
  · simp at h1
  · simpa using h1
 refine ⟨⟨h.next, f, rfl, rfl, by simp; omega, by simp, A.same _ _ _ hA (by simp) fun x hx => ?_, fun hx => ?_⟩, by simp; omega, fun x hx _ => ?_, fun x hx => ?_, fun x hx => ?_⟩
 · have := hf x hx
   have : x ≠ h.next := by omega
   simp [this]
 · have := hf _ hx; omega
 · have : x ≠ h.next := by omega
   simp only [put_get, this, if_false]
   rw [m.same x (by simp; omega) (by simp)]
   simp [this]
 · rcases List.mem_cons.1 hx with rfl | hx
   · simp
   · have := hf x hx; right; omega
 · rcases List.mem_cons.1 hx with rfl | hx
   · simp; omega
   · simpa using A.lt _ _ hA x hx
theorem space_New_to (most : V) : cl (Go.Abs.F.space_New E) [i64 3, most] h fun r h' => ∃ pt fp, Spa h' fp r (cTo pt) (plTo pt [] []) ∧ Mod h [] h' fp := by
 refine cl_of ?_
 have e1 : buildD (.struct [(.int .i64 0), (.pointer none), (.pointer none), (.pointer none)] [(0, 1), (1, 1), (2, 1), (3, 1)]) [(0, i64 3)] = some (.agg #[i64 3, nil, nil, nil]) := rfl
 have e2 : newD none (.agg #[i64 3, nil, nil, nil]) h = some (ptr h.next 0, h.new (.cells [i64 3, nil, nil, nil] 4 .rw)) := rfl
 simp only [Go.Abs.F.space_New, e1, e2, kv_some, kP_some, bin_eql, show ((3 : Int) == 1) = false from rfl, show ((3 : Int) == 2) = false from rfl, show ((3 : Int) == 3) = true from rfl, ifV_bool, Bool.false_eq_true, if_false, if_true, aNil_ptr, fieldAddr_ptr, Nat.zero_add]
 refine cl_then topic_New ?_
 rintro pt h2 ⟨f, t, m⟩
 obtain ⟨q1, q2⟩ := t.isPtr
 have hg : h2.get h.next = some (.cells [i64 3, nil, nil, nil] 4 .rw) := by rw [m.same h.next (by simp) (by simp)]; simp
 rw [st_one hg (by simp) q1 q2 (by simp)]
 simp only [kH_some, List.set_cons_succ, List.set_cons_zero]
 obtain ⟨s, m'⟩ := spa_made (A := plTo pt [] []) (cs := cTo pt) m t
 exact ⟨pt, _, s, m'⟩
theorem space_New_qu (most : Int) : cl (Go.Abs.F.space_New E) [i64 2, i64 most] h fun r h' => ∃ pt fp, Spa h' fp r (cQu pt) (plQu pt (min (max most 1) 9) 1 [] []) ∧ Mod h [] h' fp := by
 refine cl_of ?_
 have e1 : buildD (.struct [(.int .i64 0), (.pointer none), (.pointer none), (.pointer none)] [(0, 1), (1, 1), (2, 1), (3, 1)]) [(0, i64 2)] = some (.agg #[i64 2, nil, nil, nil]) := rfl
 have e2 : newD none (.agg #[i64 2, nil, nil, nil]) h = some (ptr h.next 0, h.new (.cells [i64 2, nil, nil, nil] 4 .rw)) := rfl
 simp only [Go.Abs.F.space_New, e1, e2, kv_some, kP_some, bin_eql, show ((2 : Int) == 1) = false from rfl, show ((2 : Int) == 2) = true from rfl, ifV_bool, Bool.false_eq_true, if_false, if_true, aNil_ptr, fieldAddr_ptr, Nat.zero_add]
 refine cl_then (queue_New most) ?_
 rintro pt h2 ⟨f, t, m⟩
 obtain ⟨q1, q2⟩ := t.isPtr
 have hg : h2.get h.next = some (.cells [i64 2, nil, nil, nil] 4 .rw) := by rw [m.same h.next (by simp) (by simp)]; simp
 rw [st_one hg (by simp) q1 q2 (by simp)]
 simp only [kH_some, List.set_cons_succ, List.set_cons_zero]
 obtain ⟨s, m'⟩ := spa_made (A := plQu pt (min (max most 1) 9) 1 [] []) (cs := cQu pt) m t
 exact ⟨pt, _, s, m'⟩
theorem space_New_tab (most : V) : cl (Go.Abs.F.space_New E) [i64 1, most] h fun r h' => ∃ pt fp, Spa h' fp r (cTab pt) (plTab pt []) ∧ Mod h [] h' fp := by
 refine cl_of ?_
 have e1 : buildD (.struct [(.int .i64 0), (.pointer none), (.pointer none), (.pointer none)] [(0, 1), (1, 1), (2, 1), (3, 1)]) [(0, i64 1)] = some (.agg #[i64 1, nil, nil, nil]) := rfl
 have e2 : newD none (.agg #[i64 1, nil, nil, nil]) h = some (ptr h.next 0, h.new (.cells [i64 1, nil, nil, nil] 4 .rw)) := rfl
 simp only [Go.Abs.F.space_New, e1, e2, kv_some, kP_some, bin_eql, show ((1 : Int) == 1) = true from rfl, ifV_bool, if_true, aNil_ptr, fieldAddr_ptr, Nat.zero_add]
 refine cl_then table_New ?_
 rintro pt h2 ⟨f, t, m⟩
 obtain ⟨q1, q2⟩ := t.isPtr
 have hg : h2.get h.next = some (.cells [i64 1, nil, nil, nil] 4 .rw) := by rw [m.same h.next (by simp) (by simp)]; simp
 rw [st_one hg (by simp) q1 q2 (by simp)]
 simp only [kH_some, List.set_cons_succ, List.set_cons_zero]
 obtain ⟨s, m'⟩ := spa_made (A := plTab pt []) (cs := cTab pt) m t
 exact ⟨pt, _, s, m'⟩
end Go.Abs

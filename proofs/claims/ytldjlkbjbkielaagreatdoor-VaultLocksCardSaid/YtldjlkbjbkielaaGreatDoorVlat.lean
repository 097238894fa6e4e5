/- Specs on abstract heaps, part 9: topics: Seek, Fetch. -/
import Derived.Test.YtldjlkbjbkielaaGreatDoorVlas
import Derived.Laws.Strings
set_option linter.unusedSimpArgs false
set_option linter.unusedVariables false
namespace Go.Abs
open Go
variable {E : FE} {h : AHeap} {fp : List Nat} {p : V} {l : List ByteArray} {g : List En}
def atN (k : ByteArray) (g : List En) : Int := match getE k g with | some (.int _ n) => n | _ => 0
theorem getE_mem {k : ByteArray} {v : V} : ∀ {g : List En}, getE k g = some v → ∃ e ∈ g, e.v = v
 | [], h => by simp [getE] at h
 | e :: g, h => by
  simp only [getE] at h
  split at h
  · exact ⟨e, by simp, by simpa using h⟩
  · obtain ⟨e', he, hv⟩ := getE_mem h
    exact ⟨e', by simp [he], hv⟩
theorem atE_eq {k : ByteArray} (hg : ∀ e ∈ g, ∃ n : Int, e.v = i64 n) : atE k g = i64 (atN k g) := by
 unfold atE atN
 cases hk : getE k g with
 | none => rfl
 | some v =>
  obtain ⟨e, he, hv⟩ := getE_mem hk
  obtain ⟨n, hn⟩ := hg e he
  rw [← hv, hn]
  rfl
theorem mem_put {k : ByteArray} {v : V} {c : Nat} : ∀ {g : List En} {e : En}, e ∈ putE k v c g → e ∈ g ∨ e.v = v
 | [], e, h => by simp [putE] at h; right; rw [h]
 | a :: g, e, h => by
  simp only [putE] at h
  split at h
  · simp only [List.mem_cons] at h
    rcases h with rfl | h
    · exact .inr rfl
    · exact .inl (by simp [h])
  · simp only [List.mem_cons] at h
    rcases h with rfl | h
    · exact .inl (by simp)
    · rcases mem_put h with h | h
      · exact .inl (by simp [h])
      · exact .inr h
theorem topic_Seek (t : To h fp p l g) (k : ByteArray) (fr to : Int) :
 cl (F.topic_Topic_Seek E) [p, str k, i64 fr, i64 to] h fun r h' =>
  if atN k g = fr ∧ fr ≤ to ∧ to ≤ l.length ∧ ((getE k g).isSome ∨ g.length < 16) then r = .bool true ∧ ∃ c, To h' fp p l (putE k (i64 to) c g) ∧ Mod h fp h' fp
  else r = .bool false ∧ h' = h := by
 have hlt := t.lt
 have t0 := t
 obtain ⟨b, m, fl, vl, clk, rfl, rfl, hne, hb, hm, h1, h2, h3, h4, h5, h6, h7⟩ := t
 refine cl_of ?_
 simp only [F.topic_Topic_Seek, ptr_eq_nil, kv_some, gdV_bool, if_true, pickV_bool]
 refine gdC_yes rfl (cl_then (topic_At t0 k) ?_)
 rintro r h' ⟨rfl, rfl⟩
 rw [atE_eq h7]
 simp only [bin_neq, kv_some, pickV_bool, gdV_bool, Bool.false_eq_true, if_false]
 by_cases ha : atN k g = fr
 · have e1 : (atN k g != fr) = false := by simp [ha]
   simp only [e1, bin_lss, kv_some, gdV_bool, if_true, pickV_bool, Bool.false_eq_true, if_false]
   by_cases hb1 : to < fr
   · have e2 : decide (to < fr) = true := by simpa using hb1
     simp only [e2, Bool.true_eq_false, if_false, kv_some, if_true]
     refine gdC_no (by decide) ?_
     simp only [gdV_bool, Bool.true_eq_false, if_false, kv_some, pickV_bool, if_true, ifV_bool]
     rw [if_neg (by omega)]
     exact ⟨trivial, trivial⟩
   · have e2 : decide (to < fr) = false := by simpa using hb1
     simp only [e2, if_true, kv_some, Bool.false_eq_true, if_false]
     refine gdC_yes rfl (cl_then (topic_Len t0) ?_)
     rintro r h' ⟨rfl, rfl⟩
     simp only [bin_gtr, kv_some, gdV_bool, if_true, pickV_bool, Bool.false_eq_true, if_false]
     by_cases hc : to > (l.length : Int)
     · have e3 : decide (to > (l.length : Int)) = true := by simpa using hc
       simp only [e3, ifV_bool, if_true]
       rw [if_neg (by omega)]
       exact ⟨trivial, trivial⟩
     · have e3 : decide (to > (l.length : Int)) = false := by simpa using hc
       simp only [e3, ifV_bool, Bool.false_eq_true, if_false, aNil_ptr, kv_some, fieldAddr_ptr, ld_one, rd_of h1, Nat.zero_add, List.getElem?_cons_succ, List.getElem?_cons_zero, lookup_map h2]
       have fin : (getE k g).isSome = true ∨ g.length < 16 → kH (mapUpdateD (some (.string, (some (.int .i64 0)))) (.map (some m)) (str k) (i64 to) h') fun _ h =>
        if atN k g = fr ∧ fr ≤ to ∧ to ≤ ↑l.length ∧ ((getE k g).isSome = true ∨ g.length < 16) then (Value.bool true : V) = .bool true ∧ ∃ c, To h (b :: m :: fl) (ptr b 0) l (putE k (i64 to) c g) ∧ Mod h' (b :: m :: fl) h (b :: m :: fl)
        else (Value.bool true : V) = .bool false ∧ h = h' := by
        intro hs
        rw [update_map h2]
        simp only [kH_some]
        rw [if_pos ⟨ha, by omega, by omega, hs⟩]
        refine ⟨trivial, clk, ⟨b, m, fl, vl, (if getE k g = none then clk + 1 else clk), rfl, rfl, hne, by simpa using hb, by simpa using hm, ?_, ?_, ?_, h4, h5, ⟨nodup_put h6.1, stp_put h6.2⟩, ?_⟩, by simp, fun x hx hn => ?_, fun x hx => .inl hx, fun x hx => by simpa using hlt x hx⟩
        · simp [hne, h1]
        · simp
        · exact h3.same (by simp) fun x hx => by
           have : x ≠ m := fun e => h5 (e ▸ hx)
           simp [this]
        · intro e he
          rcases mem_put he with he | he
          · exact h7 e he
          · exact ⟨to, he⟩
        · have : x ≠ m := fun e => hn (by simp [e])
          simp [this]
       cases hk : getE k g with
       | some v =>
        rw [hk] at fin
        simp only [extract_tuple, List.getElem?_toArray, List.getElem?_cons_zero, List.getElem?_cons_succ, kv_some, Option.isSome_some, not_bool, Bool.not_true, gdV_bool, Bool.false_eq_true, if_false, pickV_bool, if_true, ifV_bool]
        simpa using fin (.inl rfl)
       | none =>
        rw [hk] at fin
        have lm : lenD .map (.map (some m)) h' = some (i64 g.length) := by simp [lenD, h2]
        simp only [extract_tuple, List.getElem?_toArray, List.getElem?_cons_zero, List.getElem?_cons_succ, kv_some, Option.isSome_none, not_bool, Bool.not_false, gdV_bool, if_true, aNil_ptr, fieldAddr_ptr, ld_one, rd_of h1, Nat.zero_add, lm, bin_geq, pickV_bool, ifV_bool]
        by_cases h16 : (g.length : Int) ≥ 16
        · have e4 : decide ((g.length : Int) ≥ 16) = true := by simpa using h16
          simp only [e4, if_true]
          rw [if_neg (by simp; omega)]
          exact ⟨trivial, trivial⟩
        · have e4 : decide ((g.length : Int) ≥ 16) = false := by simpa using h16
          simp only [e4, Bool.false_eq_true, if_false]
          simpa using fin (.inr (by omega))
 · have e1 : (atN k g != fr) = true := by simpa using ha
   simp only [e1, Bool.true_eq_false, if_false, kv_some, gdV_bool, if_true, pickV_bool]
   refine gdC_no (by decide) ?_
   simp only [gdV_bool, Bool.true_eq_false, if_false, kv_some, pickV_bool, if_true, ifV_bool]
   rw [if_neg (by omega)]
   exact ⟨trivial, trivial⟩
theorem Sl.mid {fp : List Nat} {v : V} {es n : Nat} {cs : List V} (s : Sl h fp v es n cs) {a z : Nat} {t t' : IntKind} (ha : a < z) (hz : z ≤ n) :
 ∃ v', sliceD (.slice es) v (some (.int t a)) (some (.int t' z)) none h = some v' ∧ (∃ b, binD .slice .eql true v' (.slice none 0 0) h = some (.bool b) ∧ b = false) ∧
  (∀ o, aLenOf v' = some (z - a) ∧ aSrc es v' (h.new o) = some ((cs.drop (a * es)).take ((z - a) * es))) := by
 obtain ⟨h0, ⟨rfl, rfl, rfl⟩ | ⟨b, c, all, rfl, rfl, hb, h1, h2, h3, h4⟩⟩ := s
 · omega
 · have hsl : sliceD (.slice es) (.slice (some ⟨b, 0, none⟩) n c) (some (.int t a)) (some (.int t' z)) none h = some (.slice (some ⟨b, 0 + a * es, none⟩) (z - a) (if a = 0 then c else c - 2 * a)) := by
    have e1 : (z : Int) ≤ ((c / 2 : Nat) : Int) := by omega
    have e2 : (a : Int) ≤ (z : Int) := by omega
    have e3 : a < c / 2 := by omega
    simp only [sliceD, h2, if_true, aBoundO, aBound, Int.natCast_nonneg, true_and, if_pos e1, if_pos e2, Int.toNat_natCast]
    by_cases a0 : a = 0
    · subst a0; simp
    · rw [if_neg a0, if_pos e3, if_neg a0]
   refine ⟨_, hsl, ⟨false, rfl, rfl⟩, fun o => ⟨rfl, ?_⟩⟩
   have hne : b ≠ h.next := Nat.ne_of_lt hb
   have h2' : (h.new o).get b = some (.cells all es .rw) := by simp [hne, h2]
   show (h.new o).rdN b (0 + a * es) ((z - a) * es) = _
   have l1 : a * es ≤ z * es := Nat.mul_le_mul_right _ (by omega)
   have l2 : z * es ≤ n * es := Nat.mul_le_mul_right _ hz
   have l3 : n * es ≤ all.length := Nat.le_trans (Nat.mul_le_mul_right _ h1) h3
   rw [rdN_of h2', Nat.sub_mul, if_pos (by omega), ← h4, Nat.zero_add, List.drop_take, List.take_take]
   congr 2
   omega
theorem topic_Fetch (t : To h fp p l g) (k : ByteArray) (hk : 0 ≤ atN k g ∧ atN k g ≤ l.length) (most : Int) (hsz : l.length ≤ 1000000) :
 cl (F.topic_Topic_Fetch E) [p, str k, i64 most] h fun r h' => ∃ fp', Ts h' fp' r ((l.drop (atN k g).toNat).take (min (max most 0) (l.length - atN k g)).toNat) ∧ Mod h [] h' fp' := by
 have t0 := t
 obtain ⟨b, m, fl, vl, clk, rfl, rfl, hne, hb, hm, h1, h2, h3, h4, h5, h6, h7⟩ := t
 refine cl_of ?_
 simp only [F.topic_Topic_Fetch]
 refine cl_then (topic_At t0 k) ?_
 rintro r h' ⟨rfl, rfl⟩
 rw [atE_eq h7]
 simp only [max2, kv_some]
 refine cl_then (topic_Len t0) ?_
 rintro r h' ⟨rfl, rfl⟩
 generalize atN k g = a at hk
 rw [sub_i64 _ _ (by omega) (by omega)]
 simp only [kv_some, min2, bin_leq, ifV_bool]
 generalize hn : min (max most 0) ((l.length : Int) - a) = n
 by_cases hn0 : n ≤ 0
 · simp only [hn0, decide_true, if_true]
   refine ⟨[], ?_, Mod.refl (by simp)⟩
   rw [show n.toNat = 0 by omega]
   exact Sl.nil
 · simp only [hn0, decide_false, Bool.false_eq_true, if_false, aNil_ptr, kv_some, fieldAddr_ptr, ld_one, rd_of h1, Nat.zero_add, List.getElem?_cons_zero]
   rw [add_i64 a n (by omega) (by omega), kv_some]
   obtain ⟨v', e1, ⟨bb, e2, rfl⟩, e3⟩ := Sl.mid h3 (t := .i64) (t' := .i64) (a := a.toNat) (z := (a + n).toNat) (by omega) (by omega)
   rw [show ((a.toNat : Nat) : Int) = a by omega, show (((a + n).toNat : Nat) : Int) = a + n by omega] at e1
   rw [e1, kv_some]
   have hl : ((l.map str).drop (a.toNat * 1)).take (((a + n).toNat - a.toNat) * 1) = ((l.drop a.toNat).take n.toNat).map str := by
    rw [List.map_take, List.map_drop, Nat.mul_one, Nat.mul_one, show (a + n).toNat - a.toNat = n.toNat by omega]
   refine cl_then (clone_of (n := (a + n).toNat - a.toNat) (new := ((l.drop a.toNat).take n.toNat).map str) ⟨false, e2, fun h => by cases h⟩ (fun o => by rw [← hl]; exact e3 o) (by simp; omega) (strs_one _) (by omega)) ?_
   rintro r h'' ⟨fp', s, d⟩
   refine ⟨fp', ?_, d⟩
   have hlen : ((l.drop a.toNat).take n.toNat).length = (a + n).toNat - a.toNat := by simp; omega
   unfold Ts
   rw [hlen]
   exact s
end Go.Abs
namespace Go.Abs
open Go
def Ro (N : Nat) (h : AHeap) (v : V) (es n : Nat) (cs : List V) : Prop :=
 cs.length = n * es ∧ N ≤ h.next ∧ ((v = .slice none 0 0 ∧ n = 0) ∨
  ∃ b o c all, v = .slice (some ⟨b, o, none⟩) n c ∧ b < N ∧ n ≤ c / 2 ∧ h.get b = some (.cells all es .ro) ∧ (all.drop o).take (n * es) = cs)
variable {N : Nat} {h h' : AHeap} {v : V} {es n : Nat} {cs : List V} {fp fp' : List Nat}
theorem Ro.mod (s : Ro N h v es n cs) (m : Mod h fp h' fp') (hf : ∀ x ∈ fp, N ≤ x) : Ro N h' v es n cs := by
 obtain ⟨h0, h1, ⟨rfl, rfl⟩ | ⟨b, o, c, all, rfl, hb, hc, hg, ha⟩⟩ := s
 · exact ⟨h0, Nat.le_trans h1 m.next, .inl ⟨rfl, rfl⟩⟩
 · refine ⟨h0, Nat.le_trans h1 m.next, .inr ⟨b, o, c, all, rfl, hb, hc, ?_, ha⟩⟩
   rw [m.same b (by omega) fun hx => by have := hf b hx; omega, hg]
theorem Ro.len (s : Ro N h v es n cs) (h' : AHeap) : lenD .slice v h' = some (i64 n) := by
 obtain ⟨_, _, ⟨rfl, rfl⟩ | ⟨b, o, c, all, rfl, _⟩⟩ := s <;> rfl
end Go.Abs
namespace Go.Abs
open Go
theorem ba_toList (a : ByteArray) : a.toList = a.data.toList := by first | exact ByteArray.toList_eq a | exact Go.ByteArray.toList_eq a
theorem ba_toList_eq (a b : ByteArray) : (a.toList == b.toList) = decide (a = b) := by
 rw [ba_toList, ba_toList]
 by_cases h : a = b
 · subst h; simp
 · have : ¬ a.data.toList = b.data.toList := fun e => h (by cases a; cases b; exact congrArg ByteArray.mk (Array.ext' e))
   rw [beq_eq_false_iff_ne.2 this]
   simp [h]
variable {N : Nat} {h h' : AHeap} {v : V} {es n : Nat} {cs : List V} {fp fp' : List Nat}
theorem str_eql (k : EqK) (c : Bool) (a b : ByteArray) : binD k .eql c (str a) (str b) h = some (.bool (decide (a = b))) := by
 rw [bin_str]
 simp only [aStr, ba_toList_eq]
theorem str_neq (k : EqK) (c : Bool) (a b : ByteArray) : binD k .neq c (str a) (str b) h = some (.bool (!decide (a = b))) := by
 rw [bin_str]
 simp only [aStr, ba_toList_eq]
end Go.Abs

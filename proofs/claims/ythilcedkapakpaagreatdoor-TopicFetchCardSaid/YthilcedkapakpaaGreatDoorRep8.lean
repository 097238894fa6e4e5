/- Specs on abstract heaps, part 8: slices of texts; topics. -/
import Derived.Test.YthilcedkapakpaaGreatDoorRep7
set_option linter.unusedSimpArgs false
set_option linter.unusedVariables false
namespace Go.Abs
open Go

/-- A slice of texts. -/
def Ts (h : AHeap) (fp : List Nat) (v : V) (l : List ByteArray) : Prop := Sl h fp v 1 l.length (l.map str)

variable {E : FE} {h : AHeap} {fp : List Nat} {v p : V} {l : List ByteArray}

theorem Ts.lt (s : Ts h fp v l) : ∀ x ∈ fp, x < h.next := Sl.lt s
theorem Ts.same {h' : AHeap} (s : Ts h fp v l) (hl : h.next ≤ h'.next) (hs : ∀ x ∈ fp, h'.get x = h.get x) : Ts h' fp v l := Sl.same s hl hs

theorem strs_one (l : List ByteArray) : (l.map str).all oneCell = true := by
  induction l with
  | nil => rfl
  | cons a l ih => simp only [List.map_cons, List.all_cons, ih]; rfl

/-- What is cloned: any slice of texts. -/
theorem clone_of {x : V} {n : Nat} {new : List V} (hn : ∃ b, binD .slice .eql true x (.slice none 0 0) h = some (.bool b) ∧ (b = true → n = 0)) (hx : ∀ o, aLenOf x = some n ∧ aSrc 1 x (h.new o) = some new) (hl : new.length = n) (h1 : new.all oneCell = true) (hsz : n ≤ 1000000) :
    cl (F.slices_Clone_Sstring_string E) [x] h fun r h' => ∃ fp', Sl h' fp' r 1 n new ∧ Mod h [] h' fp' := by
  refine cl_of ?_
  obtain ⟨b, hb, hnil⟩ := hn
  simp only [F.slices_Clone_Sstring_string, hb, kv_some, ifV_bool]
  cases b with
  | true =>
    have h0 := hnil rfl
    have : new = [] := List.eq_nil_of_length_eq_zero (by omega)
    subst this
    subst h0
    simp only [if_true]
    exact ⟨[], Sl.nil, Mod.refl (by simp)⟩
  | false =>
    have e0 : buildSliceD (some (1, [(.string ⟨#[]⟩)])) 0 [] h = some (.slice (some ⟨h.next, 0, none⟩) 0 0, h.new (.cells [] 1 .rw)) := rfl
    simp only [Bool.false_eq_true, if_false, e0, kP_some]
    have s1 : Sl (h.new (.cells [] 1 .rw)) [h.next] (.slice (some ⟨h.next, 0, none⟩) 0 0) 1 0 [] := ⟨by simp, .inr ⟨h.next, 0, [], rfl, rfl, by simp, by simp, by simp, by simp, by simp⟩⟩
    obtain ⟨v', h', fp', e1, e2, e3⟩ := Sl.append s1 (bytes := 16) (z := [.string ⟨#[]⟩]) (k := n) (new := new) rfl (by decide) (by decide) (hx (.cells [] 1 .rw)).1 (fun _ => (hx (.cells [] 1 .rw)).2) (by omega) h1 (by omega)
    rw [e1]
    simp only [kP_some]
    refine ⟨fp', by simpa using e2, by have := e3.next; simp at this; omega, fun x hx _ => ?_, fun x hx => ?_, e3.lt⟩
    · have hne : x ≠ h.next := by omega
      rw [e3.same x (by simp; omega) (by simpa using hne)]
      simp [hne]
    · rcases e3.new x hx with h1 | h1
      · simp at h1; right; omega
      · simp at h1; right; omega

theorem clone_strs (s : Ts h fp v l) (hsz : l.length ≤ 1000000) : cl (F.slices_Clone_Sstring_string E) [v] h fun r h' => ∃ fp', Ts h' fp' r l ∧ Mod h [] h' fp' := by
  obtain ⟨b, hb, hn⟩ := Sl.isNil s true
  refine clone_of ⟨b, hb, fun h => (hn h).1⟩ (fun o => ?_) (by simp) (strs_one l) hsz
  have : Ts (h.new o) fp v l := s.same (by simp) fun x hx => by
    have := s.lt x hx
    have : x ≠ h.next := by omega
    simp [this]
  exact Sl.src this

/-- A topic: its variable, its texts, its groups. -/
def To (h : AHeap) (fp : List Nat) (p : V) (l : List ByteArray) (g : List En) : Prop :=
  ∃ b m fl vl clk, p = ptr b 0 ∧ fp = b :: m :: fl ∧ b ≠ m ∧ b < h.next ∧ m < h.next ∧ h.get b = some (.cells [vl, .map (some m)] 2 .rw) ∧ h.get m = some (.map (g.map ME) clk) ∧ Ts h fl vl l ∧
    b ∉ fl ∧ m ∉ fl ∧ (keysE g).Nodup ∧ ∀ e ∈ g, ∃ n : Int, e.v = i64 n

theorem To.lt {g : List En} (t : To h fp p l g) : ∀ x ∈ fp, x < h.next := by
  obtain ⟨b, m, fl, vl, clk, rfl, rfl, hne, hb, hm, h1, h2, h3, _⟩ := t
  intro x hx
  simp only [List.mem_cons] at hx
  rcases hx with rfl | rfl | hx
  · exact hb
  · exact hm
  · exact h3.lt x hx

theorem To.same {g : List En} {h' : AHeap} (t : To h fp p l g) (hl : h.next ≤ h'.next) (hs : ∀ x ∈ fp, h'.get x = h.get x) : To h' fp p l g := by
  obtain ⟨b, m, fl, vl, clk, rfl, rfl, hne, hb, hm, h1, h2, h3, h4⟩ := t
  exact ⟨b, m, fl, vl, clk, rfl, rfl, hne, by omega, by omega, by rw [hs b (by simp), h1], by rw [hs m (by simp), h2], h3.same hl fun x hx => hs x (by simp [hx]), h4⟩

theorem topic_New : cl (F.topic_New E) [] h fun r h' => ∃ fp, To h' fp r [] [] ∧ Mod h [] h' fp := by
  refine cl_of ?_
  have e1 : makeMapD true none h = some (.map (some h.next), h.new (.map [] 0)) := rfl
  have e2 : buildD (.struct [(.slice none 0 0), (.map none)] [(0, 1), (1, 1)]) [(1, .map (some h.next))] = some (.agg #[.slice none 0 0, .map (some h.next)]) := rfl
  have e3 : ∀ (g : AHeap) (a b : V), newD none (.agg #[a, b]) g = some (ptr g.next 0, g.new (.cells [a, b] 2 .rw)) := fun _ _ _ => rfl
  simp only [F.topic_New, e1, e2, e3, kP_some, kv_some, new_next]
  refine ⟨[h.next + 1, h.next], ⟨h.next + 1, h.next, [], _, 0, rfl, rfl, by simp, by simp, by simp; omega, by simp, by simp, Sl.nil, by simp, by simp, by simp [keysE], by simp⟩, by simp; omega, fun x hx _ => ?_, fun x hx => ?_, fun x hx => ?_⟩
  · have h1 : x ≠ h.next := by omega
    have h2 : x ≠ h.next + 1 := by omega
    simp [h1, h2]
  · simp at hx; right; omega
  · simp at hx ⊢; omega

theorem topic_Len {g : List En} (t : To h fp p l g) : cl (F.topic_Topic_Len E) [p] h fun r h' => h' = h ∧ r = i64 l.length := by
  obtain ⟨b, m, fl, vl, clk, rfl, rfl, hne, hb, hm, h1, h2, h3, h4⟩ := t
  refine cl_of ?_
  have := Sl.len h3
  simp [F.topic_Topic_Len, rd_of h1, this]

def atE (k : ByteArray) (g : List En) : V := (getE k g).getD (i64 0)

theorem topic_At {g : List En} (t : To h fp p l g) (k : ByteArray) : cl (F.topic_Topic_At E) [p, str k] h fun r h' => h' = h ∧ r = atE k g := by
  obtain ⟨b, m, fl, vl, clk, rfl, rfl, hne, hb, hm, h1, h2, h3, h4⟩ := t
  refine cl_of ?_
  simp [F.topic_Topic_At, rd_of h1, lookup_map h2, atE]

theorem topic_Pub {g : List En} (t : To h fp p l g) (s : ByteArray) (hsz : l.length ≤ 1000000) :
    cl (F.topic_Topic_Pub E) [p, str s] h fun r h' =>
      if l.length < 64 then r = .tuple #[i64 l.length, .bool true] ∧ ∃ fp', To h' fp' p (l ++ [s]) g ∧ Mod h fp h' fp'
      else r = .tuple #[i64 0, .bool false] ∧ h' = h := by
  have hlt := t.lt
  obtain ⟨b, m, fl, vl, clk, rfl, rfl, hne, hb, hm, h1, h2, h3, h4, h5, h6, h7⟩ := t
  refine cl_of ?_
  have l1 := Sl.len h3
  simp only [F.topic_Topic_Pub, ptr_eq_nil, kv_some, gdV_bool, if_true, aNil_ptr, fieldAddr_ptr, ld_one, rd_of h1, Nat.zero_add, List.getElem?_cons_succ, List.getElem?_cons_zero, l1, bin_geq, pickV_bool, Bool.false_eq_true, if_false, ifV_bool]
  by_cases hc : l.length < 64
  · have hd : ¬ ((l.length : Int) ≥ 64) := by omega
    simp only [hd, decide_false, if_pos hc, Bool.false_eq_true, if_false]
    have e2 : buildSliceD (some (1, [(.string ⟨#[]⟩)])) 1 [(0, str s)] h = some (.slice (some ⟨h.next, 0, none⟩) 1 2, h.new (.cells [str s] 1 .rw)) := rfl
    simp only [e2, kP_some]
    have keep : ∀ x, x < h.next → (h.new (.cells [str s] 1 .rw)).get x = h.get x := fun x hx => by
      have : x ≠ h.next := by omega
      simp [this]
    have s1 : Ts (h.new (.cells [str s] 1 .rw)) fl vl l := h3.same (by simp) fun x hx => keep x (h3.lt x hx)
    obtain ⟨v', h', fl', a1, a2, a3⟩ := Sl.append s1 (x := .slice (some ⟨h.next, 0, none⟩) 1 2) (k := 1) (bytes := 16) (z := [.string ⟨#[]⟩]) (new := [str s]) rfl (by decide) (by decide) rfl
      (fun _ => by simp [aSrc, sliceCells, AHeap.rdN]) rfl rfl (by omega)
    simp only [a1, kP_some]
    have nn : h.next + 1 ≤ h'.next := by have := a3.next; simpa using this
    have g2 : h'.get b = some (.cells [vl, .map (some m)] 2 .rw) := by rw [a3.same b (by simp; omega) h4, keep b hb]; exact h1
    have gm : h'.get m = some (.map (g.map ME) clk) := by rw [a3.same m (by simp; omega) h5, keep m hm]; exact h2
    obtain ⟨c1, c2⟩ := Sl.cell a2
    rw [st_one g2 (by simp) c1 c2 (by simp)]
    simp only [kH_some, List.set_cons_zero]
    have bfl : b ∉ fl' := fun hx => by
      rcases a3.new b hx with hx | hx
      · exact h4 hx
      · simp at hx; omega
    have mfl : m ∉ fl' := fun hx => by
      rcases a3.new m hx with hx | hx
      · exact h5 hx
      · simp at hx; omega
    have kp : ∀ x, x ≠ b → (h'.put b (.cells [v', .map (some m)] 2 .rw)).get x = h'.get x := fun x hx => by simp [hx]
    have s2 : Ts h' fl' v' (l ++ [s]) := by simpa [Ts] using a2
    have t2 : To (h'.put b (.cells [v', .map (some m)] 2 .rw)) (b :: m :: fl') (ptr b 0) (l ++ [s]) g :=
      ⟨b, m, fl', v', clk, rfl, rfl, hne, by simp; omega, by simp; omega, by simp, by rw [kp m (Ne.symm hne)]; exact gm, s2.same (by simp) fun x hx => kp x fun e => bfl (e ▸ hx), bfl, mfl, h6, h7⟩
    refine cl_then (topic_Len t2) ?_
    rintro r h'' ⟨rfl, rfl⟩
    have w : IntKind.i64.wrap (((l ++ [s]).length : Nat) - 1) = (l.length : Int) := by rw [wrap_i64 (by simp) (by simp; omega)]; simp
    simp only [bin_sub, kv_some, w]
    refine ⟨trivial, _, t2, by simp; omega, fun x hx hn => ?_, fun x hx => ?_, t2.lt⟩
    · simp only [List.mem_cons, not_or] at hn
      rw [kp x hn.1, a3.same x (by simp; omega) hn.2.2, keep x hx]
    · simp only [List.mem_cons] at hx ⊢
      rcases hx with rfl | rfl | hx
      · simp
      · simp
      · rcases a3.new x hx with hx | hx
        · simp [hx]
        · simp at hx; right; omega
  · have hd : (l.length : Int) ≥ 64 := by omega
    simp only [hd, decide_true, if_neg hc, if_true]
    exact ⟨trivial, trivial⟩

end Go.Abs

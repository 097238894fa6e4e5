/- TopicRise, on abstract heaps. -/
import Derived.Test.YthilcedkapakpaaGreatDoorRep10
set_option linter.unusedSimpArgs false
set_option linter.unusedVariables false
namespace Go.Abs
open Go
variable {E E0 : FE} {h : AHeap}

/-- The group's entry, if it has one. -/
def oneG (g : List En) (at_ : Int) : Prop := (g = [] ∧ at_ = 0) ∨ ∃ c, g = [⟨⟨#[103]⟩, i64 at_, c⟩]

theorem ne_gh : ((⟨#[103]⟩ : ByteArray) = ⟨#[104]⟩) = False := by simp

theorem oneG_at {g : List En} {a : Int} (hg : oneG g a) : atN ⟨#[103]⟩ g = a ∧ atN ⟨#[104]⟩ g = 0 ∧ g.length ≤ 1 := by
  rcases hg with ⟨rfl, rfl⟩ | ⟨c, rfl⟩
  · exact ⟨rfl, rfl, by simp⟩
  · refine ⟨by simp [atN, getE], by simp [atN, getE, ne_gh], by simp⟩

theorem oneG_put {g : List En} {a b : Int} {c : Nat} (hg : oneG g a) : oneG (putE ⟨#[103]⟩ (i64 b) c g) b := by
  rcases hg with ⟨rfl, rfl⟩ | ⟨c', rfl⟩
  · exact .inr ⟨c, rfl⟩
  · exact .inr ⟨c', by simp [putE]⟩

theorem law_TopicRise {v : V} {l : List OpA} (s : Ops h.next h v l) (a : Int) :
    F.estafettelaw8_TopicRise E [i64 a, v] h fun v _ => v = .bool true := by
  simp only [F.estafettelaw8_TopicRise]
  refine cl_of ⟨rfl, ?_⟩
  have hr := Int.tmod_lt_of_pos a (show (0 : Int) < 64 by decide)
  have hr2 : -64 < a.tmod 64 := by
    have := Int.lt_tmod_of_pos a (show (0 : Int) < 64 by decide)
    omega
  have e64 : ((64 : Int) = 0) = False := by simp
  simp only [not_bool, kv_some, ifV_bool, Bool.not_true, Bool.false_eq_true, if_false, bin_rem, e64]
  rw [add_i64 _ 64 (by omega) (by omega), kv_some]
  simp only [bin_rem, e64, if_false, kv_some]
  have hN0 : 0 ≤ (a.tmod 64 + 64).tmod 64 := Int.tmod_nonneg _ (by omega)
  have hN1 : (a.tmod 64 + 64).tmod 64 < 64 := Int.tmod_lt_of_pos _ (by decide)
  generalize (a.tmod 64 + 64).tmod 64 = n at hN0 hN1
  generalize hN : h.next = N at s
  refine cl_then topic_New ?_
  rintro p h1 ⟨f1, t1, m1⟩
  have s1 := s.mod m1 (by simp)
  have u1 := m1.above (N := N) (by omega) (by simp)
  refine ⟨fun k l' h' => ∃ (i : Int) (fp' : List Nat), l' = [i64 i] ∧ 0 ≤ i ∧ i ≤ n ∧ k = (n - i).toNat ∧ To h' fp' p (List.replicate i.toNat ⟨#[120]⟩) [] ∧ (∀ x ∈ fp', N ≤ x) ∧ Ops N h' v l,
    n.toNat, ⟨0, f1, rfl, by omega, by omega, by omega, t1, u1, s1⟩, ?_⟩
  rintro k e g ⟨i, f2, hl, i0, i1, rfl, t2, u2, s2⟩
  simp only [List.cons.injEq, and_true] at hl
  rw [hl]
  simp only [bin_lss, kv_some, ifV_bool, decide_eq_true_eq]
  by_cases hi : i < n
  · rw [if_pos hi]
    refine cl_then (topic_Pub t2 ⟨#[120]⟩ (by simp; omega)) ?_
    intro r h2 hs
    rw [if_pos (by simp; omega)] at hs
    obtain ⟨_, f3, t3, m3⟩ := hs
    rw [add_i64 i 1 (by omega) (by omega), kv_some]
    refine ⟨(n - (i + 1)).toNat, by omega, i + 1, f3, rfl, by omega, by omega, rfl, ?_, m3.above s2.2.1 u2, s2.mod m3 u2⟩
    rw [show (i + 1).toNat = i.toNat + 1 by omega, List.replicate_succ']
    exact t3
  · rw [if_neg hi]
    obtain rfl : i = n := by omega
    refine ⟨fun k l' h' => ∃ (at_ j : Int) (fp' : List Nat) (gr : List En), l' = [i64 at_, i64 j] ∧ 0 ≤ j ∧ j ≤ l.length ∧ k = (l.length - j).toNat ∧ 0 ≤ at_ ∧ at_ ≤ i ∧ oneG gr at_ ∧
      To h' fp' p (List.replicate i.toNat ⟨#[120]⟩) gr ∧ (∀ x ∈ fp', N ≤ x) ∧ Ops N h' v l,
      l.length, ⟨0, 0, f2, [], rfl, by omega, by omega, by omega, by omega, by omega, .inl ⟨rfl, rfl⟩, t2, u2, s2⟩, ?_⟩
    rintro k e2 g2 ⟨at_, j, f3, gr, hl, j0, j1, rfl, a0, a1, hg, t3, u3, s3⟩
    simp only [List.cons.injEq, and_true] at hl
    rw [hl.1, hl.2]
    simp only [Ro.len s3 g2, kv_some, bin_lss, gdV_bool]
    by_cases hj : j < (l.length : Int)
    · have ej : decide (j < (l.length : Int)) = true := by simpa using hj
      simp only [ej, if_true, kv_some, bin_lss, pickV_bool, ifV_bool, decide_eq_true_eq]
      by_cases h50 : j < 50
      · rw [if_pos h50]
        obtain ⟨o, ho⟩ : ∃ o, l[j.toNat]? = some o := ⟨l[j.toNat]'(by omega), List.getElem?_eq_getElem _⟩
        obtain ⟨b, off, ex, _, _, _, ea, eb, _⟩ := s3.at ho
        rw [show ((j.toNat : Nat) : Int) = j by omega] at ex
        simp only [ex, kv_some, fieldAddr_ptr, ld_one, ea, eb]
        obtain ⟨x, exx, x0, x1⟩ := and_mask (k := .bad) (c := true) (h := g2) o.a 31 (by decide) (by decide)
        obtain ⟨y, eyy, y0, y1⟩ := and_mask (k := .bad) (c := true) (h := g2) o.b 63 (by decide) (by decide)
        simp only [exx, eyy, kv_some]
        obtain ⟨hg1, hg2, hg3⟩ := oneG_at hg
        refine cl_then (topic_Seek t3 ⟨#[103]⟩ x y) ?_
        intro r h4 hs
        have hs' : ∃ ok : Bool, r = .bool ok ∧ (ok = decide (x = at_ ∧ x ≤ y ∧ y ≤ i)) ∧ ∃ gr', To h4 f3 p (List.replicate i.toNat ⟨#[120]⟩) gr' ∧ Mod g2 f3 h4 f3 ∧ oneG gr' (if ok then y else at_) := by
          rw [hg1] at hs
          split at hs
          · rename_i hc
            obtain ⟨rfl, c, t4, m4⟩ := hs
            refine ⟨true, rfl, ?_, _, t4, m4, oneG_put hg⟩
            simp at hc ⊢
            omega
          · rename_i hc
            obtain ⟨rfl, rfl⟩ := hs
            refine ⟨false, rfl, ?_, gr, t3, Mod.refl t3.lt, hg⟩
            simp at hc ⊢
            omega
        clear hs
        obtain ⟨ok, rfl, hok, gr', t4, m4, hg'⟩ := hs'
        have s4 := s3.mod m4 u3
        have ecmp : kv (binD .bad .eql false (i64 x) (i64 at_) h4) = fun K => K (.bool (x == at_)) := by funext K; simp
        have want : (if (x == at_) = true then (if decide (y ≥ x) = true then decide (y ≤ i) else false) else false) = ok := by
          rw [hok]
          by_cases h1 : x = at_ <;> by_cases h2 : x ≤ y <;> by_cases h3 : y ≤ i <;> simp [h1, h2, h3] <;> omega
        have go : ∀ q : Bool, q = ok → ∀ X Y : Prop, (Y) → kv (binD .bool .neq false (.bool ok) (.bool q) h4) fun v68 => ifV v68 X Y := by
          rintro q rfl X Y hY
          simpa using hY
        have rest : ∃ K35 : List V → AHeap → Prop, (
            ifV (.bool ok) (
            K35 [i64 y] h4) (
            K35 [i64 at_] h4)) ∧ ∀ (e35 : Nat → V) (h : AHeap), K35 [(e35 8)] h →
            cl (F.topic_Topic_At E) [p, (.string ⟨#[103]⟩)] h fun v72_36 h =>
            kv (binD .bad .neq false v72_36 (e35 8) h) fun v74_37 =>
            kv (gdV v74_37 false (some p)) fun v76_38 =>
            gdC v74_37 false h (fun K39 => cl (F.topic_Topic_At E) [v76_38, (.string ⟨#[104]⟩)] h fun v h => K39 v h) fun v77_40 h =>
            kv (gdV v74_37 false (binD .bad .neq true v77_40 (.int .i64 0) h)) fun v78_41 =>
            kv (pickV v74_37 (.bool true) v78_41) fun v79_42 =>
            kv (gdV v79_42 false (some p)) fun v81_43 =>
            gdC v79_42 false h (fun K44 => cl (F.topic_Topic_Fetch E) [v81_43, (.string ⟨#[103]⟩), (.int .i64 100)] h fun v h => K44 v h) fun v82_45 h =>
            kv (gdV v79_42 false (lenD .slice v82_45 h)) fun v83_46 =>
            kv (gdV v79_42 false (some (i64 i))) fun v84_47 =>
            kv (gdV v79_42 false (some (e35 8))) fun v85_48 =>
            kv (gdV v79_42 false (binD .bad .sub false v84_47 v85_48 h)) fun v86_49 =>
            kv (gdV v79_42 false (binD .bad .neq false v83_46 v86_49 h)) fun v87_50 =>
            kv (pickV v79_42 (.bool true) v87_50) fun v88_51 =>
            ifV v88_51 ((Value.bool false : V) = .bool true) (
            kv (binD .bad .add true (i64 j) (.int .i64 1) h) fun v37_52 =>
            ∃ m, m < (↑l.length - j).toNat ∧ ∃ (at_ j : Int) (fp' : List Nat) (gr : List En), [(e35 8), v37_52] = [i64 at_, i64 j] ∧ 0 ≤ j ∧ j ≤ l.length ∧ m = (l.length - j).toNat ∧ 0 ≤ at_ ∧ at_ ≤ i ∧ oneG gr at_ ∧
              To h fp' p (List.replicate i.toNat ⟨#[120]⟩) gr ∧ (∀ x ∈ fp', N ≤ x) ∧ Ops N h v l) := by
          refine ⟨fun l' h' => l' = [i64 (if ok then y else at_)] ∧ h' = h4, ?_, ?_⟩
          · cases ok <;> simp
          · rintro e35 h5 ⟨hl5, rfl⟩
            simp only [List.cons.injEq, and_true] at hl5
            rw [hl5]
            generalize hz : (if ok = true then y else at_) = z at hg'
            have z0 : 0 ≤ z ∧ z ≤ i := by
              rw [← hz]
              cases ok with
              | false => simp; omega
              | true =>
                have := hok.symm
                simp at this ⊢
                omega
            obtain ⟨k1, k2, k3⟩ := oneG_at hg'
            have hints := t4
            obtain ⟨_, _, _, _, _, _, _, _, _, _, _, _, _, _, _, _, hint⟩ := hints
            refine cl_then (topic_At t4 ⟨#[103]⟩) ?_
            rintro r h6 ⟨rfl, rfl⟩
            rw [atE_eq hint, k1]
            have e1 : (z != z) = false := by simp
            simp only [bin_neq, e1, kv_some, gdV_bool, if_true]
            refine gdC_yes rfl (cl_then (topic_At t4 ⟨#[104]⟩) ?_)
            rintro r h6 ⟨rfl, rfl⟩
            rw [atE_eq hint, k2]
            have e2 : ((0 : Int) != 0) = false := rfl
            simp only [bin_neq, e2, kv_some, gdV_bool, if_true, pickV_bool, Bool.false_eq_true, if_false]
            refine gdC_yes rfl (cl_then (topic_Fetch t4 ⟨#[103]⟩ (by rw [k1]; simp; omega) 100 (by simp; omega)) ?_)
            rintro r h7 ⟨f7, s7, m7⟩
            have ln : lenD .slice r h7 = some (i64 (i - z)) := by
              rw [Sl.len s7]
              congr 2
              rw [k1]
              simp
              omega
            simp only [ln, kv_some]
            rw [sub_i64 i z (by omega) (by omega)]
            have e3 : (i - z != i - z) = false := by simp
            simp only [bin_neq, e3, kv_some, pickV_bool, Bool.false_eq_true, if_false, ifV_bool]
            rw [add_i64 j 1 (by omega) (by omega), kv_some]
            refine ⟨(l.length - (j + 1)).toNat, by omega, z, j + 1, f3, gr', rfl, by omega, by omega, rfl, z0.1, z0.2, hg', ?_, u3, s4.mod m7 (by simp)⟩
            exact t4.same m7.next fun x hx => m7.same x (t4.lt x hx) (by simp)
        simp only [bin_eql, kv_some, gdV_bool]
        by_cases h1 : (x == at_) = true
        · simp only [h1, if_true, kv_some, bin_geq, pickV_bool, gdV_bool]
          rw [h1, if_pos rfl] at want
          by_cases h2 : decide (y ≥ x) = true
          · rw [h2, if_pos rfl] at want
            simp only [h2, if_true, kv_some, bin_leq, pickV_bool]
            exact go _ want _ _ rest
          · have h2' : decide (y ≥ x) = false := by simpa using h2
            rw [h2'] at want
            simp only [h2', Bool.false_eq_true, if_false, kv_some, pickV_bool]
            exact go _ want _ _ rest
        · have h1' : (x == at_) = false := by simpa using h1
          rw [h1'] at want
          simp only [h1', Bool.false_eq_true, if_false, kv_some, pickV_bool, gdV_bool]
          exact go _ want _ _ rest
      · rw [if_neg h50]; trivial
    · have ej : decide (j < (l.length : Int)) = false := by simpa using hj
      simp only [ej, Bool.false_eq_true, if_false, kv_some, pickV_bool, ifV_bool]

end Go.Abs

/- Specs on abstract heaps, part 45: whoever looks at all of a map finds each once. -/
import Derived.Test.YtldjlkbjbkielaaGreatDoorRep44
set_option linter.unusedSimpArgs false
set_option linter.unusedVariables false
namespace Go.Abs
open Go

/-- What was looked at so far. -/
structure Seen (es done : List MapEntry) (seen : Array Nat) : Prop where
  sub : ∀ e ∈ done, e ∈ es
  nd : (done.map (·.born)).Nodup
  eq : seen = (done.map (·.born)).toArray

theorem Seen.nil (es : List MapEntry) : Seen es [] #[] := ⟨by simp, by simp, rfl⟩

variable {es done : List MapEntry} {seen : Array Nat} {h : AHeap} {it m clk : Nat}

theorem Seen.push (s : Seen es done seen) {e : MapEntry} (he : e ∈ es) (hn : e.born ∉ seen) : Seen es (done ++ [e]) (seen.push e.born) := by
  refine ⟨fun x hx => ?_, ?_, ?_⟩
  · rcases List.mem_append.1 hx with hx | hx
    · exact s.sub x hx
    · simp only [List.mem_singleton] at hx
      rw [hx]; exact he
  · rw [List.map_append, List.nodup_append]
    refine ⟨s.nd, by simp, fun a ha b hb => ?_⟩
    simp only [List.map_cons, List.map_nil, List.mem_singleton] at hb
    rintro rfl
    apply hn
    rw [s.eq, ← hb]
    simpa using ha
  · rw [s.eq]; simp

theorem born_inj (hn : (es.map (·.born)).Nodup) {a b : MapEntry} (ha : a ∈ es) (hb : b ∈ es) (e : a.born = b.born) : a = b := by
  induction es with
  | nil => simp at ha
  | cons x l ih =>
    simp only [List.map_cons, List.nodup_cons] at hn
    rcases List.mem_cons.1 ha with rfl | ha' <;> rcases List.mem_cons.1 hb with rfl | hb'
    · rfl
    · exact absurd (List.mem_map.2 ⟨b, hb', e.symm⟩) hn.1
    · exact absurd (List.mem_map.2 ⟨a, ha', e⟩) hn.1
    · exact ih hn.2 ha' hb'

theorem nodup_of_map {α β : Type} {f : α → β} : ∀ {l : List α}, (l.map f).Nodup → l.Nodup
  | [], _ => by simp
  | a :: l, h => by
    simp only [List.map_cons, List.nodup_cons] at h ⊢
    exact ⟨fun hm => h.1 (List.mem_map.2 ⟨a, hm, rfl⟩), nodup_of_map h.2⟩

theorem Seen.new (s : Seen es done seen) {e : MapEntry} (hn : e.born ∉ seen) : e ∉ done := fun hm => hn (by rw [s.eq]; simpa using ⟨e, hm, rfl⟩)

theorem Seen.lt (s : Seen es done seen) {e : MapEntry} (he : e ∈ es) (hn : e.born ∉ seen) : done.length < es.length := by
  have s' := s.push he hn
  have h1 : (done ++ [e]).Nodup := nodup_of_map s'.nd
  have := h1.length_le_of_subset (fun x hx => s'.sub x hx)
  simp at this
  omega

theorem Seen.le (s : Seen es done seen) : done.length ≤ es.length := (nodup_of_map s.nd).length_le_of_subset fun x hx => s.sub x hx

theorem Seen.all (s : Seen es done seen) (hn : (es.map (·.born)).Nodup) (ha : ∀ e ∈ es, e.born ∈ seen) : es.Perm done := by
  refine (List.perm_ext_iff_of_nodup (nodup_of_map hn) (nodup_of_map s.nd)).2 fun e => ⟨fun he => ?_, s.sub e⟩
  have := ha e he
  rw [s.eq] at this
  obtain ⟨x, hx, hxe⟩ : ∃ x ∈ done, x.born = e.born := by simpa using this
  rw [← born_inj hn (s.sub x hx) he hxe]
  exact hx

theorem next_map (hb : ∀ e ∈ es, e.born < clk) (g1 : h.get it = some (.miter (some m) clk seen clk)) (g2 : h.get m = some (.map es clk)) {K : V → AHeap → Prop}
    (hK : ∀ e ∈ es, e.born ∉ seen → K (.tuple #[.bool true, e.key, e.val]) (h.put it (.miter (some m) clk (seen.push e.born) clk)))
    (hE : (∀ e ∈ es, e.born ∈ seen) → K (.tuple #[.bool false]) h) : aNext (ptr it 0) false h K := by
  have guard : (!seen.isEmpty && !es.isEmpty && es.all (·.born ≥ clk)) = false := by
    cases hg : es with
    | nil => simp
    | cons a l =>
      have := hb a (by simp [hg])
      have : ¬ a.born ≥ clk := by omega
      simp [this]
  have old : ∀ l : List MapEntry, (∀ e ∈ l, e.born < clk) → l.filter (·.born < clk) = l ∧ l.filter (·.born ≥ clk) = [] := by
    intro l hl
    refine ⟨List.filter_eq_self.2 fun e he => by simpa using hl e he, List.filter_eq_nil_iff.2 fun e he => ?_⟩
    have := hl e he
    simp; omega
  obtain ⟨o1, o2⟩ := old (es.filter fun e => !seen.contains e.born) fun e he => hb e ((List.mem_filter.1 he).1)
  simp only [aNext, g1, g2]
  refine ⟨guard, fun c hc => ?_⟩
  simp only [cands, o1, o2, List.append_nil] at hc
  rcases List.mem_append.1 hc with hc | hc
  · split at hc
    · rename_i hem
      simp only [List.mem_singleton] at hc
      subst hc
      refine hE fun e he => ?_
      rw [List.isEmpty_iff] at hem
      have := List.filter_eq_nil_iff.1 hem e he
      simpa using this
    · simp at hc
  · obtain ⟨e, he, rfl⟩ := List.mem_map.1 hc
    obtain ⟨he1, he2⟩ := List.mem_filter.1 he
    exact hK e he1 (by simpa using he2)

theorem entry_map {e : MapEntry} (hn : (es.map (·.born)).Nodup) (he : e ∈ es) (g1 : h.get it = some (.miter (some m) clk (seen.push e.born) clk)) (g2 : h.get m = some (.map es clk)) :
    aEntry (ptr it 0) h = some (.tuple #[e.key, e.val]) := by
  obtain ⟨e', hf⟩ : ∃ e', es.find? (·.born == e.born) = some e' := by
    have : (es.find? (·.born == e.born)).isSome := List.find?_isSome.2 ⟨e, he, by simp⟩
    exact Option.isSome_iff_exists.1 this
  have h1 : e' ∈ es := List.mem_of_find?_eq_some hf
  have h2 : e'.born = e.born := by simpa using List.find?_some hf
  obtain rfl := born_inj hn h1 he h2
  simp only [aEntry, g1, g2, Array.back?_push, if_true, hf, Option.map_some]

end Go.Abs

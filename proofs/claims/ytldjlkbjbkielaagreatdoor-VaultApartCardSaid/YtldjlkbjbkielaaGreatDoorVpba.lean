/- Specs on abstract heaps, part 34: the document's topics, numbers. -/
import Derived.Test.YtldjlkbjbkielaaGreatDoorVpaz
set_option linter.unusedSimpArgs false
set_option linter.unusedVariables false
namespace Go.Abs
open Go Go.Proofs
variable {E : FE} {h h' : aA} {fp : List Nat} {p : V} {s : SpM}
def aAs (k : ByteArray) (ps : List Pr) : Int := ((bU k ps).map (·.at_)).getD 0
end Go.Abs
namespace Go.Abs
open Go Go.Proofs
variable {E : FE} {h h' : aA} {fp : List Nat} {p : V} {s : SpM} {g : List En} {ps : List Pr} {k : Nat}
structure TG (f : Pr → V) (g : List En) (ps : List Pr) : Prop where
 rise : oL ps
 same : ∀ k, bE k g = (bU k ps).map f
variable {f : Pr → V}
theorem TG.nil : TG f [] [] := ⟨List.Pairwise.nil, fun _ => rfl⟩
theorem TG.put (t : TG f g ps) (q : Pr) (c : Nat) : TG f (cK q.key (f q) c g) (cG q ps) :=
 ⟨t.rise.put, fun k => by
  rw [aJg, aAt]
  split
  · rfl
  · exact t.same k⟩
theorem TG.del (t : TG f g ps) (hn : (bY g).Nodup) (k : ByteArray) : TG f (eK k g) (iK k ps) :=
 ⟨t.rise.del, fun k' => by
  rw [aJf hn, aJi _ _ t.rise]
  split
  · rfl
  · exact t.same k'⟩
theorem TG.hit (t : TG f g ps) (k : ByteArray) : (bE k g).isSome = (bU k ps).isSome := by rw [t.same]; simp
theorem TG.perm (t : TG f g ps) (hn : (bY g).Nodup) : (bY g).Perm (ps.map (·.key)) := by
 refine (List.perm_ext_iff_of_nodup hn (aVo t.rise)).2 fun k => ?_
 have h1 : k ∈ bY g ↔ bE k g ≠ none := by
  rw [ne_eq, ← get_none]
  simp
 rw [h1, t.same, ne_eq, Option.map_eq_none_iff]
 constructor
 · intro h
   cases hh : bU k ps with
   | none => exact absurd hh h
   | some p =>
    obtain ⟨h2, h3⟩ := aJj hh
    exact List.mem_map.2 ⟨p, h2, h3⟩
 · intro h e
   obtain ⟨p, h2, rfl⟩ := List.mem_map.1 h
   rw [aJl t.rise h2] at e
   cases e
theorem TG.len (t : TG f g ps) (hn : (bY g).Nodup) : g.length = ps.length := by
 have := (t.perm hn).length_eq
 simpa [bY] using this
def aC3 (v : ByteArray) : Msg := ⟨0, v, 0, 0⟩
def nR : bO → SpM → Prop
 | .tab g, s => s.kind = 1 ∧ TG (fun q => str q.val) g s.bV ∧ (bY g).Nodup ∧ s.items = [] ∧ s.lost = [] ∧ ∀ q ∈ s.bV, q.at_ = 0
 | .qu a b i l, s => s.kind = 2 ∧ s.bV = [] ∧ s.most = a ∧ s.next = b ∧ s.items = i ∧ s.lost = l
 | .to l g, s => s.kind = 3 ∧ TG (fun q => i64 q.at_) g s.bV ∧ (bY g).Nodup ∧ s.items = l.map aC3 ∧ s.lost = [] ∧ ∀ q ∈ s.bV, q.val = ⟨#[]⟩
end Go.Abs
namespace Go.Abs
open Go Go.Proofs
variable {E : FE} {h h' : aA} {fp : List Nat} {p : V} {s : SpM} {g : List En} {ps : List Pr} {k : Nat} {l : List ByteArray}
theorem aSe (t : TG (fun q => i64 q.at_) g ps) (key : ByteArray) : aAs key ps = atN key g := by
 unfold aAs atN
 rw [t.same]
 cases bU key ps <;> rfl
theorem aT2 (l : List ByteArray) : (l.map aC3).map (·.val) = l := by
 rw [List.map_map]
 have : ((fun m : Msg => m.val) ∘ aC3) = id := by funext x; rfl
 rw [this, List.map_id]
end Go.Abs

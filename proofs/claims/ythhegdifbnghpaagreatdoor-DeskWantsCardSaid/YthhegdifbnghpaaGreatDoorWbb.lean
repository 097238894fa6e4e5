/- Specs on abstract heaps, part 34: the document's topics, numbers. -/
import Derived.Test.YthhegdifbnghpaaGreatDoorWba
set_option linter.unusedSimpArgs false
set_option linter.unusedVariables false
namespace Go.Abs
open Go Go.Proofs
variable {E : FE} {h h' : AHeap} {fp : List Nat} {p : V} {s : SpM}
theorem Ts.push {v : V} {l : List ByteArray} (t : Ts h fp v l) (x : ByteArray) (hsz : l.length ≤ 1000000) :
 ∃ v' h' fp', buildSliceD (some (1, [(.string ⟨#[]⟩)])) 1 [(0, str x)] h = some (.slice (some ⟨h.next, 0, none⟩) 1 2, h.new (.cells [str x] 1 .rw)) ∧
  appendD (some (1, 16, [(.string ⟨#[]⟩)])) v (.slice (some ⟨h.next, 0, none⟩) 1 2) (h.new (.cells [str x] 1 .rw)) = some (v', h') ∧ Ts h' fp' v' (l ++ [x]) ∧ Mod h fp h' fp' := by
 have m0 : Mod h fp (h.new (.cells [str x] 1 .rw)) fp := Mod.newBox t.lt
 have s1 : Ts (h.new (.cells [str x] 1 .rw)) fp v l := t.same (by simp) fun y hy => by
  have := t.lt y hy
  have : y ≠ h.next := by omega
  simp [this]
 obtain ⟨v', h', fp', a1, a2, a3⟩ := Sl.append s1 (x := .slice (some ⟨h.next, 0, none⟩) 1 2) (k := 1) (bytes := 16) (z := [.string ⟨#[]⟩]) (new := [str x]) rfl (by decide) (by decide) rfl
  (fun _ => by simp [aSrc, sliceCells, AHeap.rdN]) rfl rfl (by omega)
 exact ⟨v', h', fp', rfl, a1, by simpa [Ts] using a2, m0.trans a3⟩
end Go.Abs
namespace Go.Abs
open Go Go.Proofs
variable {E : FE} {h h' : AHeap} {fp : List Nat} {p : V} {s : SpM} {g : List En} {ps : List Pr} {k : Nat}
structure TG (f : Pr → V) (g : List En) (ps : List Pr) : Prop where
 rise : Rise ps
 same : ∀ k, getE k g = (hitP k ps).map f
variable {f : Pr → V}
theorem TG.nil : TG f [] [] := ⟨List.Pairwise.nil, fun _ => rfl⟩
theorem TG.put (t : TG f g ps) (q : Pr) (c : Nat) : TG f (putE q.key (f q) c g) (putP q ps) :=
 ⟨t.rise.put, fun k => by
  rw [get_put, hit_put]
  split
  · rfl
  · exact t.same k⟩
theorem TG.perm (t : TG f g ps) (hn : (keysE g).Nodup) : (keysE g).Perm (ps.map (·.key)) := by
 refine (List.perm_ext_iff_of_nodup hn (rise_nodup t.rise)).2 fun k => ?_
 have h1 : k ∈ keysE g ↔ getE k g ≠ none := by
  rw [ne_eq, ← get_none]
  simp
 rw [h1, t.same, ne_eq, Option.map_eq_none_iff]
 constructor
 · intro h
   cases hh : hitP k ps with
   | none => exact absurd hh h
   | some p =>
    obtain ⟨h2, h3⟩ := hit_mem hh
    exact List.mem_map.2 ⟨p, h2, h3⟩
 · intro h e
   obtain ⟨p, h2, rfl⟩ := List.mem_map.1 h
   rw [hit_of t.rise h2] at e
   cases e
theorem TG.len (t : TG f g ps) (hn : (keysE g).Nodup) : g.length = ps.length := by
 have := (t.perm hn).length_eq
 simpa [keysE] using this
end Go.Abs

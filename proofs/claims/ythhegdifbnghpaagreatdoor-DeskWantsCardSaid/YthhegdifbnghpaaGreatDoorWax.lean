/- Specs on abstract heaps, part 24: numbers as texts. -/
import Derived.Test.YthhegdifbnghpaaGreatDoorWav
import Derived.Test.YthhegdifbnghpaaGreatDoorWaw
import Derived.Test.YthhegdifbnghpaaGreatDoorWat
set_option linter.unusedSimpArgs false
set_option linter.unusedVariables false
namespace Go.Abs
open Go Go.Proofs
variable {E : FE} {h h' : AHeap} {fp : List Nat} {p : V}
structure Oq where
 fn : Int
 space : ByteArray
 key : ByteArray
 val : ByteArray
 n : Int
 deriving Inhabited
def Oq.cells (o : Oq) : List V := [i64 o.fn, str o.space, str o.key, str o.val, i64 o.n]
abbrev Oq.agg (o : Oq) : V := .agg #[i64 o.fn, str o.space, str o.key, str o.val, i64 o.n]
theorem new5 (o : Oq) : newD none o.agg h = some (ptr h.next 0, h.new (.cells o.cells 5 .rw)) := rfl
def Spa (h : AHeap) (fp : List Nat) (p : V) (cs : List V) (A : Pl) : Prop :=
 ∃ b f, p = ptr b 0 ∧ fp = b :: f ∧ b < h.next ∧ h.get b = some (.cells cs 4 .rw) ∧ A.P h f ∧ b ∉ f
variable {cs : List V} {A A' : Pl}
theorem Spa.lt (s : Spa h fp p cs A) : ∀ x ∈ fp, x < h.next := by
 obtain ⟨b, f, rfl, rfl, hb, _, hA, _⟩ := s
 intro x hx
 rcases List.mem_cons.1 hx with rfl | hx
 · exact hb
 · exact A.lt _ _ hA x hx
theorem Spa.same (s : Spa h fp p cs A) (hl : h.next ≤ h'.next) (hs : ∀ x ∈ fp, h'.get x = h.get x) : Spa h' fp p cs A := by
 obtain ⟨b, f, rfl, rfl, hb, hg, hA, hn⟩ := s
 exact ⟨b, f, rfl, rfl, by omega, by rw [hs b (by simp), hg], A.same _ _ _ hA hl fun x hx => hs x (by simp [hx]), hn⟩
def plTo (p : V) (l : List ByteArray) (g : List En) : Pl := ⟨fun h f => To h f p l g, fun _ _ q => q.lt, fun _ _ _ q hl hs => q.same hl hs⟩
abbrev cTo (pt : V) : List V := [i64 3, nil, nil, pt]
abbrev cQu (pt : V) : List V := [i64 2, nil, pt, nil]
abbrev cTab (pt : V) : List V := [i64 1, pt, nil, nil]
end Go.Abs
namespace Go.Abs
open Go Go.Proofs
variable {E : FE} {h : AHeap} {X : Fr} {L : List Pl} {p pw : V} {g : List En} {ps : List Pr}
theorem getE_ofmem : ∀ {l : List En}, (keysE l).Nodup → ∀ {e : En}, e ∈ l → getE e.k l = some e.v
 | [], _, e, h => by simp at h
 | a :: l, hn, e, h => by
  simp only [keysE, List.map_cons, List.nodup_cons] at hn
  simp only [getE]
  rcases List.mem_cons.1 h with rfl | h
  · simp
  · have : ¬ a.k = e.k := fun hk => hn.1 (hk ▸ List.mem_map.2 ⟨e, h, rfl⟩)
    rw [if_neg this]
    exact getE_ofmem hn.2 h
theorem TW.vals (t : TW g ps) (hn : (keysE g).Nodup) : ∀ e ∈ g, ∃ s, e.v = str s := by
 intro e he
 have h1 := getE_ofmem hn he
 rw [t.same] at h1
 obtain ⟨q, _, h2⟩ := Option.map_eq_some_iff.1 h1
 exact ⟨q.val, h2.symm⟩
theorem TW.len (t : TW g ps) (hn : (keysE g).Nodup) : g.length = ps.length := by
 have := (t.perm hn).length_eq
 simpa [keysE] using this
theorem Tab.nd {fp : List Nat} (t : Tab h fp p g) : (keysE g).Nodup := by
 obtain ⟨b, m, clk, _, _, _, _, _, _, _, hn⟩ := t
 exact hn.1
structure TI (k : Nat) (g : List En) (ps : List Pr) : Prop where
 tw : TW g ps
 len : ps.length ≤ k
 sz : ∀ q ∈ ps, q.key.size ≤ maxLen
theorem TI.mono {k k' : Nat} (t : TI k g ps) (h : k ≤ k') : TI k' g ps := ⟨t.tw, Nat.le_trans t.len h, t.sz⟩
theorem TI.put {k : Nat} (t : TI k g ps) (q : Pr) (c : Nat) (hq : q.key.size ≤ maxLen) : TI (k + 1) (putE q.key (str q.val) c g) (putP q ps) :=
 ⟨t.tw.put q c, Nat.le_trans (put_len q ps) (by have := t.len; omega), fun x hx => by
  rcases mem_putP hx with rfl | hx
  · exact hq
  · exact t.sz x hx⟩
end Go.Abs

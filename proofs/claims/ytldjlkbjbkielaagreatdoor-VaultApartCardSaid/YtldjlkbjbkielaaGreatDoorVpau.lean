/- Specs on abstract heaps, part 13: the document's spaces (estafetteref8): what one is; New, Send. -/
import Derived.Test.YtldjlkbjbkielaaGreatDoorVpat
import Derived.Test.YtldjlkbjbkielaaGreatDoorVpas
set_option linter.unusedSimpArgs false
set_option linter.unusedVariables false
namespace Go.Abs
open Go
structure Pr where
 key : ByteArray
 val : ByteArray
 at_ : Int
structure SpM where
 name : ByteArray
 kind : Int
 bV : List Pr
 most : Int
 items : List Msg
 lost : List Msg
 next : Int
variable {E : FE} {h h' : aA} {fp : List Nat} {p : V} {s : SpM} {b : Nat} {fP fI fL : List Nat} {vP vI vL : V}
end Go.Abs
namespace Go.Abs
open Go
structure Pl where
 P : aA → List Nat → Prop
 lt : ∀ h f, P h f → ∀ x ∈ f, x < h.next
 same : ∀ h h' f, P h f → h.next ≤ h'.next → (∀ x ∈ f, h'.get x = h.get x) → P h' f
structure Fr where
 N : Nat
 I : aA → Prop
 bW : ∀ h h' fp fp', I h → Mod h fp h' fp' → (∀ x ∈ fp, N ≤ x) → I h'
def cY (N : Nat) (h : aA) : List Pl → List Nat → Prop
 | [], f => f = []
 | A :: L, f => ∃ a r, f = a ++ r ∧ A.P h a ∧ cY N h L r ∧ (∀ x ∈ a, x ∉ r) ∧ ∀ x ∈ a, N ≤ x
def Sep (F : Fr) (h : aA) (L : List Pl) : Prop := F.N ≤ h.next ∧ F.I h ∧ ∃ f, cY F.N h L f
variable {F : Fr} {h h' : aA} {A B C D X : Pl} {L : List Pl}
theorem cY.lt {N : Nat} : ∀ {L : List Pl} {f : List Nat}, cY N h L f → ∀ x ∈ f, x < h.next
 | [], f, s, x, hx => by subst s; simp at hx
 | A :: L, f, s, x, hx => by
  obtain ⟨a, r, rfl, s1, s2, _⟩ := s
  rcases List.mem_append.1 hx with hx | hx
  · exact A.lt _ _ s1 x hx
  · exact cY.lt s2 x hx
theorem cY.lo {N : Nat} : ∀ {L : List Pl} {f : List Nat}, cY N h L f → ∀ x ∈ f, N ≤ x
 | [], f, s, x, hx => by subst s; simp at hx
 | A :: L, f, s, x, hx => by
  obtain ⟨a, r, rfl, s1, s2, _, s4⟩ := s
  rcases List.mem_append.1 hx with hx | hx
  · exact s4 x hx
  · exact cY.lo s2 x hx
theorem cY.same {N : Nat} : ∀ {L : List Pl} {f : List Nat}, cY N h L f → h.next ≤ h'.next → (∀ x ∈ f, h'.get x = h.get x) → cY N h' L f
 | [], f, s, _, _ => s
 | A :: L, f, s, hl, hs => by
  obtain ⟨a, r, rfl, s1, s2, s3, s4⟩ := s
  exact ⟨a, r, rfl, A.same _ _ _ s1 hl fun x hx => hs x (by simp [hx]), cY.same s2 hl fun x hx => hs x (by simp [hx]), s3, s4⟩
theorem Sep.head (s : Sep F h (A :: L)) : ∃ a, A.P h a ∧ ∀ {h' : aA} {a' : List Nat} (A' : Pl), Mod h a h' a' → A'.P h' a' → Sep F h' (A' :: L) := by
 obtain ⟨s0, s1, f, a, r, rfl, s2, s3, s4, s5⟩ := s
 refine ⟨a, s2, fun {h' a'} A' m hA => ⟨Nat.le_trans s0 m.next, F.bW _ _ _ _ s1 m s5, a' ++ r, a', r, rfl, hA, s3.same m.next fun x hx => m.same x (s3.lt x hx) fun hf => s4 x hf hx, fun x hx hr => ?_, fun x hx => ?_⟩⟩
 · rcases m.new x hx with h1 | h1
   · exact s4 x h1 hr
   · have := s3.lt x hr; omega
 · rcases m.new x hx with h1 | h1
   · exact s5 x h1
   · omega
theorem Sep.alloc (s : Sep F h L) {a' : List Nat} (A' : Pl) (m : Mod h [] h' a') (hA : A'.P h' a') : Sep F h' (A' :: L) := by
 obtain ⟨s0, s1, f, s2⟩ := s
 refine ⟨Nat.le_trans s0 m.next, F.bW _ _ _ _ s1 m (by simp), a' ++ f, a', f, rfl, hA, s2.same m.next fun x hx => m.same x (s2.lt x hx) (by simp), fun x hx hf => ?_, fun x hx => ?_⟩
 · rcases m.new x hx with h1 | h1
   · simp at h1
   · have := s2.lt x hf; omega
 · rcases m.new x hx with h1 | h1
   · simp at h1
   · omega
theorem Sep.skip (s : Sep F h L) {a' : List Nat} (m : Mod h [] h' a') : Sep F h' L := by
 obtain ⟨s0, s1, f, s2⟩ := s
 exact ⟨Nat.le_trans s0 m.next, F.bW _ _ _ _ s1 m (by simp), f, s2.same m.next fun x hx => m.same x (s2.lt x hx) (by simp)⟩
theorem Sep.drop (s : Sep F h (A :: L)) : Sep F h L := by
 obtain ⟨s0, s1, f, a, r, rfl, s2, s3, s4, s5⟩ := s
 exact ⟨s0, s1, r, s3⟩
theorem cY.swap {N : Nat} {f : List Nat} (s : cY N h (A :: B :: L) f) : ∃ f', cY N h (B :: A :: L) f' ∧ ∀ x, x ∈ f' ↔ x ∈ f := by
 obtain ⟨a, r, rfl, s2, ⟨b, r2, rfl, t2, t3, t4, t5⟩, s4, s5⟩ := s
 refine ⟨b ++ (a ++ r2), ⟨b, a ++ r2, rfl, t2, ⟨a, r2, rfl, s2, t3, fun x hx hr => s4 x hx (by simp [hr]), s5⟩, fun x hx hr => ?_, t5⟩, fun x => by simp only [List.mem_append]; constructor <;> (rintro (h | h | h) <;> simp [h])⟩
 rcases List.mem_append.1 hr with hr | hr
 · exact s4 x hr (by simp [hx])
 · exact t4 x hx hr
theorem cY.perm {N : Nat} {L L' : List Pl} (p : L.Perm L') : ∀ {f : List Nat}, cY N h L f → ∃ f', cY N h L' f' ∧ ∀ x, x ∈ f' ↔ x ∈ f := by
 induction p with
 | nil => exact fun s => ⟨_, s, fun x => Iff.rfl⟩
 | cons A p ih =>
  rintro f ⟨a, r, rfl, s2, s3, s4, s5⟩
  obtain ⟨r', t1, t2⟩ := ih s3
  exact ⟨a ++ r', ⟨a, r', rfl, s2, t1, fun x hx hr => s4 x hx ((t2 x).1 hr), s5⟩, fun x => by simp [t2 x]⟩
 | swap A B L => exact fun s => s.swap
 | trans p q ih1 ih2 =>
  intro f s
  obtain ⟨f1, a1, a2⟩ := ih1 s
  obtain ⟨f2, b1, b2⟩ := ih2 a1
  exact ⟨f2, b1, fun x => (b2 x).trans (a2 x)⟩
theorem Sep.perm {L' : List Pl} (s : Sep F h L) (p : L.Perm L') : Sep F h L' := by
 obtain ⟨s0, s1, f, s2⟩ := s
 obtain ⟨f', s3, _⟩ := s2.perm p
 exact ⟨s0, s1, f', s3⟩
theorem Sep.up1 (s : Sep F h (A :: B :: L)) : Sep F h (B :: A :: L) := s.perm (List.Perm.swap _ _ _)
theorem Sep.up2 (s : Sep F h (A :: B :: C :: L)) : Sep F h (C :: A :: B :: L) := s.perm (((List.Perm.swap _ _ _).cons _).trans (List.Perm.swap _ _ _))
theorem Sep.up3 (s : Sep F h (A :: B :: C :: D :: L)) : Sep F h (D :: A :: B :: C :: L) :=
 s.perm (((((List.Perm.swap _ _ _).cons _).cons _).trans ((List.Perm.swap _ _ _).cons _)).trans (List.Perm.swap _ _ _))
theorem Sep.up4 (s : Sep F h (A :: B :: C :: D :: X :: L)) : Sep F h (X :: A :: B :: C :: D :: L) :=
 s.perm (((((((List.Perm.swap _ _ _).cons _).cons _).cons _).trans (((List.Perm.swap _ _ _).cons _).cons _)).trans ((List.Perm.swap _ _ _).cons _)).trans (List.Perm.swap _ _ _))
theorem Sep.dn2 (s : Sep F h (A :: B :: C :: L)) : Sep F h (B :: C :: A :: L) := s.perm ((List.Perm.swap _ _ _).trans ((List.Perm.swap _ _ _).cons _))
theorem Sep.dn3 (s : Sep F h (A :: B :: C :: D :: L)) : Sep F h (B :: C :: D :: A :: L) :=
 s.perm (((List.Perm.swap _ _ _).trans ((List.Perm.swap _ _ _).cons _)).trans (((List.Perm.swap _ _ _).cons _).cons _))
theorem Sep.dn4 (s : Sep F h (A :: B :: C :: D :: X :: L)) : Sep F h (B :: C :: D :: X :: A :: L) :=
 s.perm ((((List.Perm.swap _ _ _).trans ((List.Perm.swap _ _ _).cons _)).trans (((List.Perm.swap _ _ _).cons _).cons _)).trans ((((List.Perm.swap _ _ _).cons _).cons _).cons _))
def aI (b : Nat) (cs : List V) (es : Nat) : Pl :=
 ⟨fun h f => f = [b] ∧ b < h.next ∧ h.get b = some (.cells cs es .rw), fun h f ⟨e, hb, _⟩ x hx => by subst e; simp at hx; omega,
  fun h h' f ⟨e, hb, hg⟩ hl hs => ⟨e, by omega, by rw [hs b (by simp [e]), hg]⟩⟩
theorem Sep.box (s : Sep F h L) (cs : List V) (es : Nat) : Sep F (h.new (.cells cs es .rw)) (aI h.next cs es :: L) :=
 s.alloc (a' := [h.next]) _ ⟨by simp, fun x hx _ => by have : x ≠ h.next := by omega
                                                       simp [this], by simp, by simp⟩ ⟨rfl, by simp, by simp⟩
theorem Sep.get {b : Nat} {cs : List V} {es : Nat} (s : Sep F h (aI b cs es :: L)) : h.get b = some (.cells cs es .rw) := by
 obtain ⟨_, ⟨_, _, e⟩, _⟩ := s.head
 exact e
theorem Sep.write {b : Nat} {cs cs' : List V} {es : Nat} (s : Sep F h (aI b cs es :: L)) : Sep F (h.put b (.cells cs' es .rw)) (aI b cs' es :: L) := by
 obtain ⟨a, ⟨rfl, hb, _⟩, k⟩ := s.head
 refine k (a' := [b]) (aI b cs' es) ⟨by simp, fun x hx hn => ?_, fun x hx => .inl hx, fun x hx => by simp at hx; simp; omega⟩ ⟨rfl, hb, by simp⟩
 have : x ≠ b := by simpa using hn
 simp [this]
def eN (p : V) (most next : Int) (items lost : List Msg) : Pl := ⟨fun h f => Qu h f p most next items lost, fun _ _ q => q.lt, fun _ _ _ q hl hs => q.same hl hs⟩
def jS (p : V) (l : List En) : Pl := ⟨fun h f => Tab h f p l, fun _ _ q => q.lt, fun _ _ _ q hl hs => q.same hl hs⟩
end Go.Abs

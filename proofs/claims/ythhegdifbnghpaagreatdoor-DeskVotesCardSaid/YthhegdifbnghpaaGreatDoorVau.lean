/- Specs on abstract heaps, part 13: the document's spaces (estafetteref8): what one is; New, Send. -/
import Derived.Test.YthhegdifbnghpaaGreatDoorVat
import Derived.Test.YthhegdifbnghpaaGreatDoorVas
import Derived.Test.YthhegdifbnghpaaGreatDoorVan
import Derived.KernelRfl
set_option linter.unusedSimpArgs false
set_option linter.unusedVariables false
namespace Go.Abs
open Go
structure Pr where
 key : ByteArray
 val : ByteArray
 at_ : Int
def Pr.cells (p : Pr) : List V := [str p.key, str p.val, i64 p.at_]
def Prs (h : AHeap) (fp : List Nat) (v : V) (l : List Pr) : Prop := Sl h fp v 3 l.length (l.flatMap Pr.cells)
theorem Prs.lt {h : AHeap} {fp : List Nat} {v : V} {l : List Pr} (s : Prs h fp v l) : ∀ x ∈ fp, x < h.next := Sl.lt s
theorem Prs.same {h h' : AHeap} {fp : List Nat} {v : V} {l : List Pr} (s : Prs h fp v l) (hl : h.next ≤ h'.next) (hs : ∀ x ∈ fp, h'.get x = h.get x) : Prs h' fp v l := Sl.same s hl hs
structure SpM where
 name : ByteArray
 kind : Int
 pairs : List Pr
 most : Int
 items : List Msg
 lost : List Msg
 next : Int
structure SpC (h : AHeap) (b : Nat) (fP fI fL : List Nat) (vP vI vL : V) (s : SpM) : Prop where
 b_lt : b < h.next
 cell : h.get b = some (.cells [str s.name, i64 s.kind, vP, i64 s.most, vI, vL, i64 s.next] 7 .rw)
 pairs : Prs h fP vP s.pairs
 items : Ms h fI vI s.items
 lost : Ms h fL vL s.lost
 bP : b ∉ fP
 bI : b ∉ fI
 bL : b ∉ fL
 PI : ∀ x ∈ fP, x ∉ fI
 PL : ∀ x ∈ fP, x ∉ fL
 IL : ∀ x ∈ fI, x ∉ fL
def Sp (h : AHeap) (fp : List Nat) (p : V) (s : SpM) : Prop :=
 ∃ b fP fI fL vP vI vL, p = ptr b 0 ∧ fp = b :: (fP ++ (fI ++ fL)) ∧ SpC h b fP fI fL vP vI vL s
variable {E : FE} {h h' : AHeap} {fp : List Nat} {p : V} {s : SpM} {b : Nat} {fP fI fL : List Nat} {vP vI vL : V}
theorem SpC.lt (c : SpC h b fP fI fL vP vI vL s) : ∀ x ∈ b :: (fP ++ (fI ++ fL)), x < h.next := by
 intro x hx
 simp only [List.mem_cons, List.mem_append] at hx
 rcases hx with rfl | hx | hx | hx
 · exact c.b_lt
 · exact c.pairs.lt x hx
 · exact c.items.lt x hx
 · exact c.lost.lt x hx
theorem Sp.lt (c : Sp h fp p s) : ∀ x ∈ fp, x < h.next := by
 obtain ⟨b, fP, fI, fL, vP, vI, vL, rfl, rfl, c⟩ := c
 exact c.lt
theorem SpC.same (c : SpC h b fP fI fL vP vI vL s) (hl : h.next ≤ h'.next) (hs : ∀ x ∈ b :: (fP ++ (fI ++ fL)), h'.get x = h.get x) : SpC h' b fP fI fL vP vI vL s :=
 ⟨by have := c.b_lt; omega, by rw [hs b (by simp), c.cell], c.pairs.same hl fun x hx => hs x (by simp [hx]), c.items.same hl fun x hx => hs x (by simp [hx]), c.lost.same hl fun x hx => hs x (by simp [hx]), c.bP, c.bI, c.bL, c.PI, c.PL, c.IL⟩
theorem Sp.same (c : Sp h fp p s) (hl : h.next ≤ h'.next) (hs : ∀ x ∈ fp, h'.get x = h.get x) : Sp h' fp p s := by
 obtain ⟨b, fP, fI, fL, vP, vI, vL, rfl, rfl, c⟩ := c
 exact ⟨b, fP, fI, fL, vP, vI, vL, rfl, rfl, c.same hl hs⟩
end Go.Abs
namespace Go.Abs
open Go
structure RC (h : AHeap) (b : Nat) (fP fI fL : List Nat) (vP vI : V) (s : SpM) (h' : AHeap) (moved left : List Msg) (got : Option Msg) (fL' : List Nat) (vL' : V) (fl : List Nat) (vl : V) : Prop where
 lt0 : ∀ x ∈ b :: (fP ++ (fI ++ fL)), x < h.next
 c : SpC h' b fP fI fL' vP vI vL' { s with lost := s.lost ++ moved }
 m : Mod h (b :: (fP ++ (fI ++ fL))) h' (b :: (fP ++ (fI ++ fL')))
 l : Ms h' fl vl left
 ap : ∀ x ∈ fl, h.next + 2 ≤ x ∧ x ∉ fL'
 n0 : h.next ∉ fL'
 n1 : h.next + 1 ∉ fL'
 nx : h.next + 2 ≤ h'.next
 g0 : h'.get h.next = some (.cells Msg.zero.cells 4 .rw)
 g1 : h'.get (h.next + 1) = some (.cells (got.getD Msg.zero).cells 4 .rw)
variable {E : FE} {h h' h'' : AHeap} {fp : List Nat} {p : V} {s : SpM} {b : Nat} {fP fI fL fL' fl : List Nat} {vP vI vL vL' vl : V} {moved left : List Msg} {got : Option Msg}
theorem RC.same (r : RC h b fP fI fL vP vI s h' moved left got fL' vL' fl vl) (hl : h'.next ≤ h''.next) (hs : ∀ x, x < h.next + 2 ∨ x ∈ fl ∨ x ∈ fL' → h''.get x = h'.get x) : RC h b fP fI fL vP vI s h'' moved left got fL' vL' fl vl := by
 have low : ∀ x ∈ b :: (fP ++ (fI ++ fL')), h''.get x = h'.get x := by
  intro x hx
  apply hs
  simp only [List.mem_cons, List.mem_append] at hx
  rcases hx with rfl | hx | hx | hx
  · have := r.lt0 x (by simp); omega
  · have := r.lt0 x (by simp [hx]); omega
  · have := r.lt0 x (by simp [hx]); omega
  · exact .inr (.inr hx)
 exact ⟨r.lt0, r.c.same hl low, ⟨by have := r.m.next; omega, fun x hx hn => by rw [hs x (by omega), r.m.same x hx hn], r.m.new, fun x hx => by have := r.m.lt x hx; omega⟩,
  r.l.same hl fun x hx => hs x (.inr (.inl hx)), r.ap, r.n0, r.n1, by have := r.nx; omega, by rw [hs _ (by omega), r.g0], by rw [hs _ (by omega), r.g1]⟩
theorem RC.new (r : RC h b fP fI fL vP vI s h' moved left got fL' vL' fl vl) (o : AObj) : RC h b fP fI fL vP vI s (h'.new o) moved left got fL' vL' fl vl :=
 r.same (by simp) fun x hx => by
  have : x ≠ h'.next := by
   rcases hx with hx | hx | hx
   · have := r.nx; omega
   · have := r.l.lt x hx; omega
   · have := r.c.lost.lt x hx; omega
  simp [this]
theorem RC.take (r : RC h b fP fI fL vP vI s h' moved left got fL' vL' fl vl) (m : Msg) : RC h b fP fI fL vP vI s (h'.put (h.next + 1) (.cells m.cells 4 .rw)) moved left (some m) fL' vL' fl vl := by
 have ne : ∀ x, x ≠ h.next + 1 → (h'.put (h.next + 1) (.cells m.cells 4 .rw)).get x = h'.get x := fun x hx => by simp [hx]
 have low : ∀ x ∈ b :: (fP ++ (fI ++ fL')), x ≠ h.next + 1 := by
  intro x hx
  simp only [List.mem_cons, List.mem_append] at hx
  rcases hx with rfl | hx | hx | hx
  · have := r.lt0 x (by simp); omega
  · have := r.lt0 x (by simp [hx]); omega
  · have := r.lt0 x (by simp [hx]); omega
  · rintro rfl; exact r.n1 hx
 exact ⟨r.lt0, r.c.same (by simp) fun x hx => ne x (low x hx), r.m.putNew (by omega), r.l.same (by simp) fun x hx => ne x (by have := (r.ap x hx).1; omega), r.ap, r.n0, r.n1, by have := r.nx; simpa using this, by rw [ne _ (by omega), r.g0], by simp⟩
end Go.Abs
namespace Go.Abs
open Go
structure Pl where
 P : AHeap → List Nat → Prop
 lt : ∀ h f, P h f → ∀ x ∈ f, x < h.next
 same : ∀ h h' f, P h f → h.next ≤ h'.next → (∀ x ∈ f, h'.get x = h.get x) → P h' f
structure Fr where
 N : Nat
 I : AHeap → Prop
 keep : ∀ h h' fp fp', I h → Mod h fp h' fp' → (∀ x ∈ fp, N ≤ x) → I h'
def SepF (N : Nat) (h : AHeap) : List Pl → List Nat → Prop
 | [], f => f = []
 | A :: L, f => ∃ a r, f = a ++ r ∧ A.P h a ∧ SepF N h L r ∧ (∀ x ∈ a, x ∉ r) ∧ ∀ x ∈ a, N ≤ x
def Sep (F : Fr) (h : AHeap) (L : List Pl) : Prop := F.N ≤ h.next ∧ F.I h ∧ ∃ f, SepF F.N h L f
variable {F : Fr} {h h' : AHeap} {A B C D X : Pl} {L : List Pl}
theorem SepF.lt {N : Nat} : ∀ {L : List Pl} {f : List Nat}, SepF N h L f → ∀ x ∈ f, x < h.next
 | [], f, s, x, hx => by subst s; simp at hx
 | A :: L, f, s, x, hx => by
  obtain ⟨a, r, rfl, s1, s2, _⟩ := s
  rcases List.mem_append.1 hx with hx | hx
  · exact A.lt _ _ s1 x hx
  · exact SepF.lt s2 x hx
theorem SepF.lo {N : Nat} : ∀ {L : List Pl} {f : List Nat}, SepF N h L f → ∀ x ∈ f, N ≤ x
 | [], f, s, x, hx => by subst s; simp at hx
 | A :: L, f, s, x, hx => by
  obtain ⟨a, r, rfl, s1, s2, _, s4⟩ := s
  rcases List.mem_append.1 hx with hx | hx
  · exact s4 x hx
  · exact SepF.lo s2 x hx
theorem SepF.same {N : Nat} : ∀ {L : List Pl} {f : List Nat}, SepF N h L f → h.next ≤ h'.next → (∀ x ∈ f, h'.get x = h.get x) → SepF N h' L f
 | [], f, s, _, _ => s
 | A :: L, f, s, hl, hs => by
  obtain ⟨a, r, rfl, s1, s2, s3, s4⟩ := s
  exact ⟨a, r, rfl, A.same _ _ _ s1 hl fun x hx => hs x (by simp [hx]), SepF.same s2 hl fun x hx => hs x (by simp [hx]), s3, s4⟩
theorem Sep.head (s : Sep F h (A :: L)) : ∃ a, A.P h a ∧ ∀ {h' : AHeap} {a' : List Nat} (A' : Pl), Mod h a h' a' → A'.P h' a' → Sep F h' (A' :: L) := by
 obtain ⟨s0, s1, f, a, r, rfl, s2, s3, s4, s5⟩ := s
 refine ⟨a, s2, fun {h' a'} A' m hA => ⟨Nat.le_trans s0 m.next, F.keep _ _ _ _ s1 m s5, a' ++ r, a', r, rfl, hA, s3.same m.next fun x hx => m.same x (s3.lt x hx) fun hf => s4 x hf hx, fun x hx hr => ?_, fun x hx => ?_⟩⟩
 · rcases m.new x hx with h1 | h1
   · exact s4 x h1 hr
   · have := s3.lt x hr; omega
 · rcases m.new x hx with h1 | h1
   · exact s5 x h1
   · omega
theorem Sep.alloc (s : Sep F h L) {a' : List Nat} (A' : Pl) (m : Mod h [] h' a') (hA : A'.P h' a') : Sep F h' (A' :: L) := by
 obtain ⟨s0, s1, f, s2⟩ := s
 refine ⟨Nat.le_trans s0 m.next, F.keep _ _ _ _ s1 m (by simp), a' ++ f, a', f, rfl, hA, s2.same m.next fun x hx => m.same x (s2.lt x hx) (by simp), fun x hx hf => ?_, fun x hx => ?_⟩
 · rcases m.new x hx with h1 | h1
   · simp at h1
   · have := s2.lt x hf; omega
 · rcases m.new x hx with h1 | h1
   · simp at h1
   · omega
theorem Sep.skip (s : Sep F h L) {a' : List Nat} (m : Mod h [] h' a') : Sep F h' L := by
 obtain ⟨s0, s1, f, s2⟩ := s
 exact ⟨Nat.le_trans s0 m.next, F.keep _ _ _ _ s1 m (by simp), f, s2.same m.next fun x hx => m.same x (s2.lt x hx) (by simp)⟩
theorem Sep.drop (s : Sep F h (A :: L)) : Sep F h L := by
 obtain ⟨s0, s1, f, a, r, rfl, s2, s3, s4, s5⟩ := s
 exact ⟨s0, s1, r, s3⟩
theorem SepF.swap {N : Nat} {f : List Nat} (s : SepF N h (A :: B :: L) f) : ∃ f', SepF N h (B :: A :: L) f' ∧ ∀ x, x ∈ f' ↔ x ∈ f := by
 obtain ⟨a, r, rfl, s2, ⟨b, r2, rfl, t2, t3, t4, t5⟩, s4, s5⟩ := s
 refine ⟨b ++ (a ++ r2), ⟨b, a ++ r2, rfl, t2, ⟨a, r2, rfl, s2, t3, fun x hx hr => s4 x hx (by simp [hr]), s5⟩, fun x hx hr => ?_, t5⟩, fun x => by simp only [List.mem_append]; constructor <;> (rintro (h | h | h) <;> simp [h])⟩
 rcases List.mem_append.1 hr with hr | hr
 · exact s4 x hr (by simp [hx])
 · exact t4 x hx hr
theorem SepF.perm {N : Nat} {L L' : List Pl} (p : L.Perm L') : ∀ {f : List Nat}, SepF N h L f → ∃ f', SepF N h L' f' ∧ ∀ x, x ∈ f' ↔ x ∈ f := by
 induction p with
 | nil => exact fun s => ⟨_, s, fun x => Iff.rfl⟩
 | cons A p ih =>
  rintro f ⟨a, r, rfl, s2, s3, s4, s5⟩
  obtain ⟨r', t1, t2⟩ := ih s3
  exact ⟨a ++ r', ⟨a, r', rfl, s2, t1, fun x hx hr => s4 x hx ((t2 x).1 hr), s5⟩, fun x => by simp [t2 x]⟩
 | swap A B L => exact fun s => s.swap
 | trans p q ih1 ih2 =>
  intro f s
  obtain ⟨f1, a1, a2⟩ := ih1 s
  obtain ⟨f2, b1, b2⟩ := ih2 a1
  exact ⟨f2, b1, fun x => (b2 x).trans (a2 x)⟩
theorem Sep.perm {L' : List Pl} (s : Sep F h L) (p : L.Perm L') : Sep F h L' := by
 obtain ⟨s0, s1, f, s2⟩ := s
 obtain ⟨f', s3, _⟩ := s2.perm p
 exact ⟨s0, s1, f', s3⟩
theorem Sep.up1 (s : Sep F h (A :: B :: L)) : Sep F h (B :: A :: L) := s.perm (List.Perm.swap _ _ _)
theorem Sep.up2 (s : Sep F h (A :: B :: C :: L)) : Sep F h (C :: A :: B :: L) := s.perm (((List.Perm.swap _ _ _).cons _).trans (List.Perm.swap _ _ _))
def plBox (b : Nat) (cs : List V) (es : Nat) : Pl :=
 ⟨fun h f => f = [b] ∧ b < h.next ∧ h.get b = some (.cells cs es .rw), fun h f ⟨e, hb, _⟩ x hx => by subst e; simp at hx; omega,
  fun h h' f ⟨e, hb, hg⟩ hl hs => ⟨e, by omega, by rw [hs b (by simp [e]), hg]⟩⟩
theorem Sep.box (s : Sep F h L) (cs : List V) (es : Nat) : Sep F (h.new (.cells cs es .rw)) (plBox h.next cs es :: L) :=
 s.alloc (a' := [h.next]) _ ⟨by simp, fun x hx _ => by have : x ≠ h.next := by omega
                                                       simp [this], by simp, by simp⟩ ⟨rfl, by simp, by simp⟩
theorem Sep.get {b : Nat} {cs : List V} {es : Nat} (s : Sep F h (plBox b cs es :: L)) : h.get b = some (.cells cs es .rw) := by
 obtain ⟨_, ⟨_, _, e⟩, _⟩ := s.head
 exact e
theorem Sep.write {b : Nat} {cs cs' : List V} {es : Nat} (s : Sep F h (plBox b cs es :: L)) : Sep F (h.put b (.cells cs' es .rw)) (plBox b cs' es :: L) := by
 obtain ⟨a, ⟨rfl, hb, _⟩, k⟩ := s.head
 refine k (a' := [b]) (plBox b cs' es) ⟨by simp, fun x hx hn => ?_, fun x hx => .inl hx, fun x hx => by simp at hx; simp; omega⟩ ⟨rfl, hb, by simp⟩
 have : x ≠ b := by simpa using hn
 simp [this]
theorem SepF.mem {N : Nat} : ∀ {L : List Pl} {f : List Nat}, SepF N h L f → ∀ A ∈ L, ∃ a, A.P h a
 | [], _, _, _, hm => by simp at hm
 | B :: L, _, ⟨a, r, rfl, s1, s2, _⟩, A, hm => by
  rcases List.mem_cons.1 hm with rfl | hm
  · exact ⟨a, s1⟩
  · exact SepF.mem s2 A hm
theorem Sep.getM {b : Nat} {cs : List V} {es : Nat} (s : Sep F h L) (hm : plBox b cs es ∈ L) : h.get b = some (.cells cs es .rw) := by
 obtain ⟨_, _, f, s⟩ := s
 obtain ⟨a, _, _, e⟩ := s.mem _ hm
 exact e
def plQu (p : V) (most next : Int) (items lost : List Msg) : Pl := ⟨fun h f => Qu h f p most next items lost, fun _ _ q => q.lt, fun _ _ _ q hl hs => q.same hl hs⟩
def plTab (p : V) (l : List En) : Pl := ⟨fun h f => Tab h f p l, fun _ _ q => q.lt, fun _ _ _ q hl hs => q.same hl hs⟩
end Go.Abs
namespace Go.Abs
open Go
variable {F : Fr} {h h' : AHeap} {A B C D : Pl} {L L' : List Pl}
theorem SepF.low {N M : Nat} : ∀ {L : List Pl} {f : List Nat}, SepF N h L f → (∀ x ∈ f, M ≤ x) → SepF M h L f
 | [], _, s, _ => s
 | A :: L, _, ⟨a, r, e, s1, s2, s3, s4⟩, hf => by
  subst e
  exact ⟨a, r, rfl, s1, s2.low fun x hx => hf x (by simp [hx]), s3, fun x hx => hf x (by simp [hx])⟩
theorem SepF.app {N : Nat} : ∀ {L' : List Pl} {L : List Pl} {f : List Nat}, SepF N h (L' ++ L) f ↔ ∃ a r, f = a ++ r ∧ SepF N h L' a ∧ SepF N h L r ∧ ∀ x ∈ a, x ∉ r
 | [], L, f => ⟨fun s => ⟨[], f, rfl, rfl, s, by simp⟩, fun ⟨a, r, e, s1, s2, _⟩ => by
  have s1' : a = [] := s1
  subst s1' e
  simpa using s2⟩
 | A :: L', L, f => by
  constructor
  · rintro ⟨a, r, rfl, s1, s2, s3, s4⟩
    obtain ⟨a2, r2, rfl, t1, t2, t3⟩ := (SepF.app (L' := L') (L := L)).1 s2
    refine ⟨a ++ a2, r2, by simp, ⟨a, a2, rfl, s1, t1, fun x hx hr => s3 x hx (by simp [hr]), s4⟩, t2, fun x hx hr => ?_⟩
    rcases List.mem_append.1 hx with hx | hx
    · exact s3 x hx (by simp [hr])
    · exact t3 x hx hr
  · rintro ⟨_, r, rfl, ⟨a, a2, rfl, s1, t1, s3, s4⟩, t2, t3⟩
    refine ⟨a, a2 ++ r, by simp, s1, (SepF.app (L' := L') (L := L)).2 ⟨a2, r, rfl, t1, t2, fun x hx => t3 x (by simp [hx])⟩, fun x hx hr => ?_, s4⟩
    rcases List.mem_append.1 hr with hr | hr
    · exact s3 x hx hr
    · exact t3 x (by simp [hx]) hr
def plPure (φ : Prop) : Pl := ⟨fun _ f => f = [] ∧ φ, fun _ _ ⟨e, _⟩ x hx => by subst e; simp at hx, fun _ _ _ p _ _ => p⟩
def plAll (L : List Pl) : Pl := ⟨fun h f => SepF 0 h L f, fun _ _ s => s.lt, fun _ _ _ s hl hs => s.same hl hs⟩
def plEx {α : Type} (A : α → Pl) : Pl := ⟨fun h f => ∃ a, (A a).P h f, fun h f ⟨a, p⟩ => (A a).lt h f p, fun h h' f ⟨a, p⟩ hl hs => ⟨a, (A a).same h h' f p hl hs⟩⟩
def plMap (b : Nat) (es : List MapEntry) (clk : Nat) : Pl :=
 ⟨fun h f => f = [b] ∧ b < h.next ∧ h.get b = some (.map es clk), fun h f ⟨e, hb, _⟩ x hx => by subst e; simp at hx; omega,
  fun h h' f ⟨e, hb, hg⟩ hl hs => ⟨e, by omega, by rw [hs b (by simp [e]), hg]⟩⟩
def plIter (b m since : Nat) (seen : Array Nat) : Pl :=
 ⟨fun h f => f = [b] ∧ b < h.next ∧ h.get b = some (.miter (some m) since seen since), fun h f ⟨e, hb, _⟩ x hx => by subst e; simp at hx; omega,
  fun h h' f ⟨e, hb, hg⟩ hl hs => ⟨e, by omega, by rw [hs b (by simp [e]), hg]⟩⟩
theorem Sep.ex {α : Type} {A : α → Pl} (s : Sep F h (plEx A :: L)) : ∃ a, Sep F h (A a :: L) := by
 obtain ⟨s0, s1, f, a, r, rfl, ⟨x, p⟩, s3, s4, s5⟩ := s
 exact ⟨x, s0, s1, a ++ r, a, r, rfl, p, s3, s4, s5⟩
theorem Sep.mkEx {α : Type} {A : α → Pl} (x : α) (s : Sep F h (A x :: L)) : Sep F h (plEx A :: L) := by
 obtain ⟨s0, s1, f, a, r, rfl, p, s3, s4, s5⟩ := s
 exact ⟨s0, s1, a ++ r, a, r, rfl, ⟨x, p⟩, s3, s4, s5⟩
theorem Sep.pure {φ : Prop} (s : Sep F h (plPure φ :: L)) : φ ∧ Sep F h L := by
 obtain ⟨s0, s1, f, a, r, rfl, ⟨rfl, p⟩, s3, s4, s5⟩ := s
 exact ⟨p, s0, s1, r, s3⟩
theorem Sep.mkPure {φ : Prop} (p : φ) (s : Sep F h L) : Sep F h (plPure φ :: L) := by
 obtain ⟨s0, s1, f, s3⟩ := s
 exact ⟨s0, s1, [] ++ f, [], f, rfl, ⟨rfl, p⟩, s3, by simp, by simp⟩
theorem Sep.all (s : Sep F h (plAll L' :: L)) : Sep F h (L' ++ L) := by
 obtain ⟨s0, s1, f, a, r, rfl, p, s3, s4, s5⟩ := s
 exact ⟨s0, s1, a ++ r, SepF.app.2 ⟨a, r, rfl, SepF.low p s5, s3, s4⟩⟩
theorem Sep.mkAll (s : Sep F h (L' ++ L)) : Sep F h (plAll L' :: L) := by
 obtain ⟨s0, s1, f, s2⟩ := s
 obtain ⟨a, r, rfl, t1, t2, t3⟩ := SepF.app.1 s2
 exact ⟨s0, s1, a ++ r, a, r, rfl, t1.low (by simp), t2, t3, t1.lo⟩
theorem Sep.conv (s : Sep F h (A :: L)) (hA : ∀ f, A.P h f → B.P h f) : Sep F h (B :: L) := by
 obtain ⟨s0, s1, f, a, r, rfl, p, s3, s4, s5⟩ := s
 exact ⟨s0, s1, a ++ r, a, r, rfl, hA a p, s3, s4, s5⟩
theorem Sep.mapGet {b clk : Nat} {es : List MapEntry} (s : Sep F h (plMap b es clk :: L)) : h.get b = some (.map es clk) := by
 obtain ⟨_, ⟨_, _, e⟩, _⟩ := s.head
 exact e
theorem Sep.iterGet {b m clk : Nat} {seen : Array Nat} (s : Sep F h (plIter b m clk seen :: L)) : h.get b = some (.miter (some m) clk seen clk) := by
 obtain ⟨_, ⟨_, _, e⟩, _⟩ := s.head
 exact e
theorem Sep.mapPut {b clk clk' : Nat} {es es' : List MapEntry} (s : Sep F h (plMap b es clk :: L)) : Sep F (h.put b (.map es' clk')) (plMap b es' clk' :: L) := by
 obtain ⟨a, ⟨rfl, hb, _⟩, k⟩ := s.head
 refine k (a' := [b]) (plMap b es' clk') ⟨by simp, fun x hx hn => ?_, fun x hx => .inl hx, fun x hx => by simp at hx; simp; omega⟩ ⟨rfl, hb, by simp⟩
 have : x ≠ b := by simpa using hn
 simp [this]
theorem Sep.iterPut {b m clk : Nat} {seen seen' : Array Nat} (s : Sep F h (plIter b m clk seen :: L)) : Sep F (h.put b (.miter (some m) clk seen' clk)) (plIter b m clk seen' :: L) := by
 obtain ⟨a, ⟨rfl, hb, _⟩, k⟩ := s.head
 refine k (a' := [b]) (plIter b m clk seen') ⟨by simp, fun x hx hn => ?_, fun x hx => .inl hx, fun x hx => by simp at hx; simp; omega⟩ ⟨rfl, hb, by simp⟩
 have : x ≠ b := by simpa using hn
 simp [this]
theorem Sep.newMap (s : Sep F h L) (es : List MapEntry) (clk : Nat) : Sep F (h.new (.map es clk)) (plMap h.next es clk :: L) :=
 s.alloc (a' := [h.next]) _ ⟨by simp, fun x hx _ => by have : x ≠ h.next := by omega
                                                       simp [this], by simp, by simp⟩ ⟨rfl, by simp, by simp⟩
theorem Sep.newIter (s : Sep F h L) (m clk : Nat) (seen : Array Nat) : Sep F (h.new (.miter (some m) clk seen clk)) (plIter h.next m clk seen :: L) :=
 s.alloc (a' := [h.next]) _ ⟨by simp, fun x hx _ => by have : x ≠ h.next := by omega
                                                       simp [this], by simp, by simp⟩ ⟨rfl, by simp, by simp⟩
theorem Sep.range {m clk : Nat} {es : List MapEntry} (s : Sep F h (plMap m es clk :: L)) {K : V → AHeap → Prop}
 (hK : ∀ it h', Sep F h' (plIter it m clk #[] :: plMap m es clk :: L) → K (ptr it 0) h') : kP (rangeD .map (.map (some m)) h) K := by
 have g := s.mapGet
 have e1 : rangeD .map (.map (some m)) h = some (.pointer (some ⟨h.next, 0, none⟩), h.new (.miter (some m) clk #[] clk)) := by simp only [rangeD, g]
 rw [e1, kP_some]
 exact hK h.next _ (s.newIter m clk #[])
theorem Sep.next {it m clk : Nat} {es done : List MapEntry} {seen : Array Nat} (s : Sep F h (plIter it m clk seen :: plMap m es clk :: L)) (hb : ∀ e ∈ es, e.born < clk) (hn : (es.map (·.born)).Nodup) (hs : Seen es done seen)
 {K : V → AHeap → Prop}
 (hK : ∀ e ∈ es, e ∉ done → ∀ h', Sep F h' (plIter it m clk (seen.push e.born) :: plMap m es clk :: L) → Seen es (done ++ [e]) (seen.push e.born) → aEntry (ptr it 0) h' = some (.tuple #[e.key, e.val]) → done.length < es.length →
  K (.tuple #[.bool true, e.key, e.val]) h')
 (hE : es.Perm done → K (.tuple #[.bool false]) h) : aNext (ptr it 0) false h K := by
 have g1 := s.iterGet
 have g2 := s.up1.mapGet
 refine next_map hb g1 g2 (fun e he hne => ?_) (fun ha => hE (hs.all hn ha))
 have s' : Sep F (h.put it (.miter (some m) clk (seen.push e.born) clk)) (plIter it m clk (seen.push e.born) :: plMap m es clk :: L) := s.iterPut
 exact hK e he (hs.new hne) _ s' (hs.push he hne) (entry_map hn he s'.iterGet s'.up1.mapGet) (hs.lt he hne)
end Go.Abs
namespace Go.Abs
open Go
structure EL (α : Type) where
 es : Nat
 enc : α → List V
 len : ∀ x, (enc x).length = es
 one : ∀ x, (enc x).all oneCell = true
 pos : 0 < es
section
variable {α : Type} (D : EL α)
def EL.flat (l : List α) : List V := l.flatMap D.enc
@[simp] theorem EL.flat_nil : D.flat [] = [] := rfl
@[simp] theorem EL.flat_cons (x : α) (l : List α) : D.flat (x :: l) = D.enc x ++ D.flat l := rfl
theorem EL.flat_app (a b : List α) : D.flat (a ++ b) = D.flat a ++ D.flat b := by simp [EL.flat]
theorem EL.flat_len (l : List α) : (D.flat l).length = l.length * D.es := by
 induction l with
 | nil => simp
 | cons x l ih => rw [EL.flat_cons, List.length_append, ih, D.len, List.length_cons, Nat.add_mul, Nat.one_mul, Nat.add_comm]
theorem EL.flat_one (l : List α) : (D.flat l).all oneCell = true := by
 induction l with
 | nil => rfl
 | cons x l ih => rw [EL.flat_cons, List.all_append, D.one, ih]; rfl
theorem EL.flat_drop (l : List α) : ∀ k, (D.flat l).drop (k * D.es) = D.flat (l.drop k) := by
 induction l with
 | nil => intro k; simp
 | cons x l ih =>
  intro k
  cases k with
  | zero => simp
  | succ k =>
   rw [List.drop_succ_cons, EL.flat_cons, Nat.add_mul, Nat.one_mul, Nat.add_comm, ← ih k, List.drop_append, D.len, List.drop_eq_nil_of_le (by rw [D.len]; omega)]
   simp
theorem EL.flat_take (l : List α) : ∀ k, (D.flat l).take (k * D.es) = D.flat (l.take k) := by
 induction l with
 | nil => intro k; simp
 | cons x l ih =>
  intro k
  cases k with
  | zero => simp
  | succ k =>
   rw [List.take_succ_cons, EL.flat_cons, EL.flat_cons, Nat.add_mul, Nat.one_mul, Nat.add_comm, ← ih k, List.take_append, D.len, List.take_of_length_le (by rw [D.len]; omega)]
   simp
theorem EL.row {l : List α} {i : Nat} {x : α} (hi : l[i]? = some x) : ((D.flat l).drop (i * D.es)).take D.es = D.enc x := by
 obtain ⟨h1, h2⟩ := List.getElem?_eq_some_iff.1 hi
 rw [D.flat_drop, List.drop_eq_getElem_cons h1, h2, EL.flat_cons, List.take_append, D.len, List.take_of_length_le (by rw [D.len]; omega)]
 simp
theorem EL.flat_set (l : List α) : ∀ {i : Nat} (y : α), i < l.length → setList (D.flat l) (i * D.es) (D.enc y) = D.flat (l.set i y) := by
 intro i y hi
 have h1 := D.flat_len l
 have h2 : i * D.es + D.es ≤ l.length * D.es := by
  have := Nat.mul_le_mul_right D.es (show i + 1 ≤ l.length by omega)
  rwa [Nat.add_mul, Nat.one_mul] at this
 rw [setList_eq _ _ _ (by rw [D.len, h1]; exact h2), D.len, List.set_eq_take_append_cons_drop, if_pos hi, D.flat_app, EL.flat_cons, D.flat_take, ← D.flat_drop l (i + 1), Nat.add_mul, Nat.one_mul, List.append_assoc]
def SlE (h : AHeap) (fp : List Nat) (v : V) (l : List α) : Prop := Sl h fp v D.es l.length (D.flat l)
variable {D} {h : AHeap} {fp : List Nat} {v : V} {l : List α}
theorem SlE.lt (s : SlE D h fp v l) : ∀ x ∈ fp, x < h.next := Sl.lt s
theorem SlE.same {h' : AHeap} (s : SlE D h fp v l) (hl : h.next ≤ h'.next) (hs : ∀ x ∈ fp, h'.get x = h.get x) : SlE D h' fp v l := Sl.same s hl hs
theorem SlE.keep {h' : AHeap} {fp' : List Nat} (s : SlE D h fp v l) (m : Mod h [] h' fp') : SlE D h' fp v l := s.same m.next fun x hx => m.same x (s.lt x hx) (by simp)
theorem SlE.len (s : SlE D h fp v l) : lenD .slice v h = some (i64 l.length) := Sl.len s
theorem SlE.nil : SlE D h [] (.slice none 0 0) [] := by simpa [SlE] using (Sl.nil (h := h) (es := D.es))
theorem SlE.at (s : SlE D h fp v l) {i : Nat} {x : α} (hi : l[i]? = some x) :
 ∃ b, fp = [b] ∧ indexAddrD (.slice D.es) v (i64 i) = some (ptr b (i * D.es)) ∧ h.rdN b (i * D.es) D.es = some (D.enc x) ∧ ∀ k, k < D.es → h.rd b (i * D.es + k) = (D.enc x)[k]? := by
 have hil : i < l.length := (List.getElem?_eq_some_iff.1 hi).1
 obtain ⟨h0, ⟨rfl, h1, rfl⟩ | ⟨b, c, all, rfl, rfl, hb, hc, h2, h3, h4⟩⟩ := s
 · omega
 have hall : l.length * D.es ≤ all.length := Nat.le_trans (Nat.mul_le_mul_right _ hc) h3
 have h5 : i * D.es + D.es ≤ l.length * D.es := by
  have := Nat.mul_le_mul_right D.es (show i + 1 ≤ l.length by omega)
  rwa [Nat.add_mul, Nat.one_mul] at this
 have hrow : (all.drop (i * D.es)).take D.es = D.enc x := by
  rw [← D.row hi, ← h4, List.drop_take, List.take_take, Nat.min_eq_left (by omega)]
 have b1 : (0 : Int) ≤ (i : Int) ∧ (i : Int) < (l.length : Nat) := by omega
 refine ⟨b, rfl, ?_, ?_, fun k hk => ?_⟩
 · simp only [indexAddrD, if_pos b1, Int.toNat_natCast, Nat.zero_add]
 · rw [rdN_of h2, if_pos (by omega), hrow]
 · rw [rd_of h2, ← hrow, List.getElem?_take, if_pos hk, List.getElem?_drop]
theorem SlE.set (s : SlE D h fp v l) {i : Nat} (hi : i < l.length) (y : α) :
 ∃ b h', fp = [b] ∧ indexAddrD (.slice D.es) v (i64 i) = some (ptr b (i * D.es)) ∧ h.wr b (i * D.es) (D.enc y) = some h' ∧ SlE D h' fp v (l.set i y) ∧ Mod h fp h' fp := by
 have lt := s.lt
 obtain ⟨h0, ⟨rfl, h1, rfl⟩ | ⟨b, c, all, rfl, rfl, hb, hc, h2, h3, h4⟩⟩ := s
 · omega
 have hall : l.length * D.es ≤ all.length := Nat.le_trans (Nat.mul_le_mul_right _ hc) h3
 have h5 : i * D.es + D.es ≤ l.length * D.es := by
  have := Nat.mul_le_mul_right D.es (show i + 1 ≤ l.length by omega)
  rwa [Nat.add_mul, Nat.one_mul] at this
 have b1 : (0 : Int) ≤ (i : Int) ∧ (i : Int) < (l.length : Nat) := by omega
 have hw : h.wr b (i * D.es) (D.enc y) = some (h.put b (.cells (setList all (i * D.es) (D.enc y)) D.es .rw)) := by
  simp only [AHeap.wr, h2, D.len]
  rw [if_pos ⟨by simp, by omega⟩]
 have e1 : setList all (i * D.es) (D.enc y) = all.take (i * D.es) ++ D.enc y ++ all.drop (i * D.es + D.es) := by rw [setList_eq _ _ _ (by rw [D.len]; omega), D.len]
 have e2 : setList (D.flat l) (i * D.es) (D.enc y) = (D.flat l).take (i * D.es) ++ D.enc y ++ (D.flat l).drop (i * D.es + D.es) := by rw [setList_eq _ _ _ (by rw [D.len, D.flat_len]; omega), D.len]
 have e3 : (setList all (i * D.es) (D.enc y)).take (l.length * D.es) = D.flat (l.set i y) := by
  rw [← D.flat_set l y hi, e1, e2, ← h4]
  obtain ⟨m, hm⟩ : ∃ m, l.length * D.es = i * D.es + D.es + m := ⟨l.length * D.es - (i * D.es + D.es), by omega⟩
  rw [hm, List.take_append, List.take_of_length_le (by simp [D.len]; omega), List.take_take, Nat.min_eq_left (by omega), List.drop_take]
  congr 2
  simp only [List.length_append, List.length_take, D.len]
  omega
 refine ⟨b, _, rfl, ?_, hw, ⟨by rw [D.flat_len], .inr ⟨b, c, setList all (i * D.es) (D.enc y), by simp, rfl, hb, by simpa using hc, by simp, by rw [setList_length]; exact h3, by simpa using e3⟩⟩, by simp, fun x _ hx => ?_, fun x hx => .inl hx, lt⟩
 · simp only [indexAddrD, if_pos b1, Int.toNat_natCast, Nat.zero_add]
 · simp at hx; simp [hx]
end
end Go.Abs
namespace Go.Abs
open Go
section
variable {α : Type} {D : EL α} {E : FE} {h : AHeap} {fp : List Nat} {v fv : V} {l : List α} {c : α → α → Int}
theorem st_el (D : EL α) (b o : Nat) (y : α) (h : AHeap) : stD (some D.es) (ptr b o) (.agg (D.enc y).toArray) h = h.wr b o (D.enc y) := by
 simp [stD, cellsOf, D.len, D.one]
theorem SlE.ld (s : SlE D h fp v l) {i : Nat} {x : α} (hi : l[i]? = some x) : ∃ b, indexAddrD (.slice D.es) v (i64 i) = some (ptr b (i * D.es)) ∧ ldD (.agg D.es) (ptr b (i * D.es)) h = some (.agg (D.enc x).toArray) := by
 obtain ⟨b, _, h1, h2, _⟩ := s.at hi
 exact ⟨b, h1, by rw [ld_agg, h2]; rfl⟩
theorem SlE.st (s : SlE D h fp v l) {i : Nat} (hi : i < l.length) (y : α) :
 ∃ b h', indexAddrD (.slice D.es) v (i64 i) = some (ptr b (i * D.es)) ∧ stD (some D.es) (ptr b (i * D.es)) (.agg (D.enc y).toArray) h = some h' ∧ SlE D h' fp v (l.set i y) ∧ Mod h fp h' fp := by
 obtain ⟨b, h', _, h1, h2, h3, h4⟩ := s.set hi y
 exact ⟨b, h', h1, by rw [st_el]; exact h2, h3, h4⟩
end
end Go.Abs
namespace Go.Abs
open Go
variable {E : FE} {h : AHeap} {fp : List Nat} {v fv : V}
section
variable {c : IdM → IdM → Int} {k : KeyM → KeyM → Int}
end
end Go.Abs

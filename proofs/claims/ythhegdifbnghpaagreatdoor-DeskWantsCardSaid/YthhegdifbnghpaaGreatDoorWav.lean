/- Specs on abstract heaps, part 13: the document's spaces (estafetteref8): what one is; New, Send. -/
import Derived.Test.YthhegdifbnghpaaGreatDoorWau
import Derived.Test.YthhegdifbnghpaaGreatDoorWat
set_option linter.unusedSimpArgs false
set_option linter.unusedVariables false
namespace Go.Abs
open Go
structure Pr where
 key : ByteArray
 val : ByteArray
 at_ : Int
def Pr.cells (p : Pr) : List V := [str p.key, str p.val, i64 p.at_]
def Prs (h : AHeap) (fp : List Nat) (v : V) (l : List Pr) : Prop := Sl h fp v 3 l.length (l.flatMap Pr.cells)
theorem Prs.lt {h : AHeap} {fp : List Nat} {v : V} {l : List Pr} (s : Prs h fp v l) : ∀ x ∈ fp, x < h.next := Sl.lt s
theorem Prs.same {h h' : AHeap} {fp : List Nat} {v : V} {l : List Pr} (s : Prs h fp v l) (hl : h.next ≤ h'.next) (hs : ∀ x ∈ fp, h'.get x = h.get x) : Prs h' fp v l := Sl.same s hl hs
structure SpM where
 name : ByteArray
 kind : Int
 pairs : List Pr
 most : Int
 items : List Msg
 lost : List Msg
 next : Int
structure SpC (h : AHeap) (b : Nat) (fP fI fL : List Nat) (vP vI vL : V) (s : SpM) : Prop where
 b_lt : b < h.next
 cell : h.get b = some (.cells [str s.name, i64 s.kind, vP, i64 s.most, vI, vL, i64 s.next] 7 .rw)
 pairs : Prs h fP vP s.pairs
 items : Ms h fI vI s.items
 lost : Ms h fL vL s.lost
 bP : b ∉ fP
 bI : b ∉ fI
 bL : b ∉ fL
 PI : ∀ x ∈ fP, x ∉ fI
 PL : ∀ x ∈ fP, x ∉ fL
 IL : ∀ x ∈ fI, x ∉ fL
def Sp (h : AHeap) (fp : List Nat) (p : V) (s : SpM) : Prop :=
 ∃ b fP fI fL vP vI vL, p = ptr b 0 ∧ fp = b :: (fP ++ (fI ++ fL)) ∧ SpC h b fP fI fL vP vI vL s
variable {E : FE} {h h' : AHeap} {fp : List Nat} {p : V} {s : SpM} {b : Nat} {fP fI fL : List Nat} {vP vI vL : V}
theorem SpC.lt (c : SpC h b fP fI fL vP vI vL s) : ∀ x ∈ b :: (fP ++ (fI ++ fL)), x < h.next := by
 intro x hx
 simp only [List.mem_cons, List.mem_append] at hx
 rcases hx with rfl | hx | hx | hx
 · exact c.b_lt
 · exact c.pairs.lt x hx
 · exact c.items.lt x hx
 · exact c.lost.lt x hx
theorem Sp.lt (c : Sp h fp p s) : ∀ x ∈ fp, x < h.next := by
 obtain ⟨b, fP, fI, fL, vP, vI, vL, rfl, rfl, c⟩ := c
 exact c.lt
theorem SpC.same (c : SpC h b fP fI fL vP vI vL s) (hl : h.next ≤ h'.next) (hs : ∀ x ∈ b :: (fP ++ (fI ++ fL)), h'.get x = h.get x) : SpC h' b fP fI fL vP vI vL s :=
 ⟨by have := c.b_lt; omega, by rw [hs b (by simp), c.cell], c.pairs.same hl fun x hx => hs x (by simp [hx]), c.items.same hl fun x hx => hs x (by simp [hx]), c.lost.same hl fun x hx => hs x (by simp [hx]), c.bP, c.bI, c.bL, c.PI, c.PL, c.IL⟩
theorem Sp.same (c : Sp h fp p s) (hl : h.next ≤ h'.next) (hs : ∀ x ∈ fp, h'.get x = h.get x) : Sp h' fp p s := by
 obtain ⟨b, fP, fI, fL, vP, vI, vL, rfl, rfl, c⟩ := c
 exact ⟨b, fP, fI, fL, vP, vI, vL, rfl, rfl, c.same hl hs⟩
end Go.Abs
namespace Go.Abs
open Go
structure RC (h : AHeap) (b : Nat) (fP fI fL : List Nat) (vP vI : V) (s : SpM) (h' : AHeap) (moved left : List Msg) (got : Option Msg) (fL' : List Nat) (vL' : V) (fl : List Nat) (vl : V) : Prop where
 lt0 : ∀ x ∈ b :: (fP ++ (fI ++ fL)), x < h.next
 c : SpC h' b fP fI fL' vP vI vL' { s with lost := s.lost ++ moved }
 m : Mod h (b :: (fP ++ (fI ++ fL))) h' (b :: (fP ++ (fI ++ fL')))
 l : Ms h' fl vl left
 ap : ∀ x ∈ fl, h.next + 2 ≤ x ∧ x ∉ fL'
 n0 : h.next ∉ fL'
 n1 : h.next + 1 ∉ fL'
 nx : h.next + 2 ≤ h'.next
 g0 : h'.get h.next = some (.cells Msg.zero.cells 4 .rw)
 g1 : h'.get (h.next + 1) = some (.cells (got.getD Msg.zero).cells 4 .rw)
variable {E : FE} {h h' h'' : AHeap} {fp : List Nat} {p : V} {s : SpM} {b : Nat} {fP fI fL fL' fl : List Nat} {vP vI vL vL' vl : V} {moved left : List Msg} {got : Option Msg}
theorem RC.same (r : RC h b fP fI fL vP vI s h' moved left got fL' vL' fl vl) (hl : h'.next ≤ h''.next) (hs : ∀ x, x < h.next + 2 ∨ x ∈ fl ∨ x ∈ fL' → h''.get x = h'.get x) : RC h b fP fI fL vP vI s h'' moved left got fL' vL' fl vl := by
 have low : ∀ x ∈ b :: (fP ++ (fI ++ fL')), h''.get x = h'.get x := by
  intro x hx
  apply hs
  simp only [List.mem_cons, List.mem_append] at hx
  rcases hx with rfl | hx | hx | hx
  · have := r.lt0 x (by simp); omega
  · have := r.lt0 x (by simp [hx]); omega
  · have := r.lt0 x (by simp [hx]); omega
  · exact .inr (.inr hx)
 exact ⟨r.lt0, r.c.same hl low, ⟨by have := r.m.next; omega, fun x hx hn => by rw [hs x (by omega), r.m.same x hx hn], r.m.new, fun x hx => by have := r.m.lt x hx; omega⟩,
  r.l.same hl fun x hx => hs x (.inr (.inl hx)), r.ap, r.n0, r.n1, by have := r.nx; omega, by rw [hs _ (by omega), r.g0], by rw [hs _ (by omega), r.g1]⟩
theorem RC.new (r : RC h b fP fI fL vP vI s h' moved left got fL' vL' fl vl) (o : AObj) : RC h b fP fI fL vP vI s (h'.new o) moved left got fL' vL' fl vl :=
 r.same (by simp) fun x hx => by
  have : x ≠ h'.next := by
   rcases hx with hx | hx | hx
   · have := r.nx; omega
   · have := r.l.lt x hx; omega
   · have := r.c.lost.lt x hx; omega
  simp [this]
theorem RC.put (r : RC h b fP fI fL vP vI s h' moved left got fL' vL' fl vl) (o : AObj) {y : Nat} (hy : h.next + 2 ≤ y ∧ y ∉ fl ∧ y ∉ fL') : RC h b fP fI fL vP vI s (h'.put y o) moved left got fL' vL' fl vl :=
 r.same (by simp) fun x hx => by
  have : x ≠ y := by
   rintro rfl
   rcases hx with hx | hx | hx
   · omega
   · exact hy.2.1 hx
   · exact hy.2.2 hx
  simp [this]
theorem RC.take (r : RC h b fP fI fL vP vI s h' moved left got fL' vL' fl vl) (m : Msg) : RC h b fP fI fL vP vI s (h'.put (h.next + 1) (.cells m.cells 4 .rw)) moved left (some m) fL' vL' fl vl := by
 have ne : ∀ x, x ≠ h.next + 1 → (h'.put (h.next + 1) (.cells m.cells 4 .rw)).get x = h'.get x := fun x hx => by simp [hx]
 have low : ∀ x ∈ b :: (fP ++ (fI ++ fL')), x ≠ h.next + 1 := by
  intro x hx
  simp only [List.mem_cons, List.mem_append] at hx
  rcases hx with rfl | hx | hx | hx
  · have := r.lt0 x (by simp); omega
  · have := r.lt0 x (by simp [hx]); omega
  · have := r.lt0 x (by simp [hx]); omega
  · rintro rfl; exact r.n1 hx
 exact ⟨r.lt0, r.c.same (by simp) fun x hx => ne x (low x hx), r.m.putNew (by omega), r.l.same (by simp) fun x hx => ne x (by have := (r.ap x hx).1; omega), r.ap, r.n0, r.n1, by have := r.nx; simpa using this, by rw [ne _ (by omega), r.g0], by simp⟩
end Go.Abs
namespace Go.Abs
open Go
structure Pl where
 P : AHeap → List Nat → Prop
 lt : ∀ h f, P h f → ∀ x ∈ f, x < h.next
 same : ∀ h h' f, P h f → h.next ≤ h'.next → (∀ x ∈ f, h'.get x = h.get x) → P h' f
structure Fr where
 N : Nat
 I : AHeap → Prop
 keep : ∀ h h' fp fp', I h → Mod h fp h' fp' → (∀ x ∈ fp, N ≤ x) → I h'
def SepF (N : Nat) (h : AHeap) : List Pl → List Nat → Prop
 | [], f => f = []
 | A :: L, f => ∃ a r, f = a ++ r ∧ A.P h a ∧ SepF N h L r ∧ (∀ x ∈ a, x ∉ r) ∧ ∀ x ∈ a, N ≤ x
def Sep (F : Fr) (h : AHeap) (L : List Pl) : Prop := F.N ≤ h.next ∧ F.I h ∧ ∃ f, SepF F.N h L f
variable {F : Fr} {h h' : AHeap} {A B C D X : Pl} {L : List Pl}
theorem SepF.lt {N : Nat} : ∀ {L : List Pl} {f : List Nat}, SepF N h L f → ∀ x ∈ f, x < h.next
 | [], f, s, x, hx => by subst s; simp at hx
 | A :: L, f, s, x, hx => by
  obtain ⟨a, r, rfl, s1, s2, _⟩ := s
  rcases List.mem_append.1 hx with hx | hx
  · exact A.lt _ _ s1 x hx
  · exact SepF.lt s2 x hx
theorem SepF.lo {N : Nat} : ∀ {L : List Pl} {f : List Nat}, SepF N h L f → ∀ x ∈ f, N ≤ x
 | [], f, s, x, hx => by subst s; simp at hx
 | A :: L, f, s, x, hx => by
  obtain ⟨a, r, rfl, s1, s2, _, s4⟩ := s
  rcases List.mem_append.1 hx with hx | hx
  · exact s4 x hx
  · exact SepF.lo s2 x hx
theorem SepF.same {N : Nat} : ∀ {L : List Pl} {f : List Nat}, SepF N h L f → h.next ≤ h'.next → (∀ x ∈ f, h'.get x = h.get x) → SepF N h' L f
 | [], f, s, _, _ => s
 | A :: L, f, s, hl, hs => by
  obtain ⟨a, r, rfl, s1, s2, s3, s4⟩ := s
  exact ⟨a, r, rfl, A.same _ _ _ s1 hl fun x hx => hs x (by simp [hx]), SepF.same s2 hl fun x hx => hs x (by simp [hx]), s3, s4⟩
theorem Sep.head (s : Sep F h (A :: L)) : ∃ a, A.P h a ∧ ∀ {h' : AHeap} {a' : List Nat} (A' : Pl), Mod h a h' a' → A'.P h' a' → Sep F h' (A' :: L) := by
 obtain ⟨s0, s1, f, a, r, rfl, s2, s3, s4, s5⟩ := s
 refine ⟨a, s2, fun {h' a'} A' m hA => ⟨Nat.le_trans s0 m.next, F.keep _ _ _ _ s1 m s5, a' ++ r, a', r, rfl, hA, s3.same m.next fun x hx => m.same x (s3.lt x hx) fun hf => s4 x hf hx, fun x hx hr => ?_, fun x hx => ?_⟩⟩
 · rcases m.new x hx with h1 | h1
   · exact s4 x h1 hr
   · have := s3.lt x hr; omega
 · rcases m.new x hx with h1 | h1
   · exact s5 x h1
   · omega
theorem Sep.alloc (s : Sep F h L) {a' : List Nat} (A' : Pl) (m : Mod h [] h' a') (hA : A'.P h' a') : Sep F h' (A' :: L) := by
 obtain ⟨s0, s1, f, s2⟩ := s
 refine ⟨Nat.le_trans s0 m.next, F.keep _ _ _ _ s1 m (by simp), a' ++ f, a', f, rfl, hA, s2.same m.next fun x hx => m.same x (s2.lt x hx) (by simp), fun x hx hf => ?_, fun x hx => ?_⟩
 · rcases m.new x hx with h1 | h1
   · simp at h1
   · have := s2.lt x hf; omega
 · rcases m.new x hx with h1 | h1
   · simp at h1
   · omega
theorem Sep.skip (s : Sep F h L) {a' : List Nat} (m : Mod h [] h' a') : Sep F h' L := by
 obtain ⟨s0, s1, f, s2⟩ := s
 exact ⟨Nat.le_trans s0 m.next, F.keep _ _ _ _ s1 m (by simp), f, s2.same m.next fun x hx => m.same x (s2.lt x hx) (by simp)⟩
theorem Sep.drop (s : Sep F h (A :: L)) : Sep F h L := by
 obtain ⟨s0, s1, f, a, r, rfl, s2, s3, s4, s5⟩ := s
 exact ⟨s0, s1, r, s3⟩
theorem SepF.swap {N : Nat} {f : List Nat} (s : SepF N h (A :: B :: L) f) : ∃ f', SepF N h (B :: A :: L) f' ∧ ∀ x, x ∈ f' ↔ x ∈ f := by
 obtain ⟨a, r, rfl, s2, ⟨b, r2, rfl, t2, t3, t4, t5⟩, s4, s5⟩ := s
 refine ⟨b ++ (a ++ r2), ⟨b, a ++ r2, rfl, t2, ⟨a, r2, rfl, s2, t3, fun x hx hr => s4 x hx (by simp [hr]), s5⟩, fun x hx hr => ?_, t5⟩, fun x => by simp only [List.mem_append]; constructor <;> (rintro (h | h | h) <;> simp [h])⟩
 rcases List.mem_append.1 hr with hr | hr
 · exact s4 x hr (by simp [hx])
 · exact t4 x hx hr
theorem SepF.perm {N : Nat} {L L' : List Pl} (p : L.Perm L') : ∀ {f : List Nat}, SepF N h L f → ∃ f', SepF N h L' f' ∧ ∀ x, x ∈ f' ↔ x ∈ f := by
 induction p with
 | nil => exact fun s => ⟨_, s, fun x => Iff.rfl⟩
 | cons A p ih =>
  rintro f ⟨a, r, rfl, s2, s3, s4, s5⟩
  obtain ⟨r', t1, t2⟩ := ih s3
  exact ⟨a ++ r', ⟨a, r', rfl, s2, t1, fun x hx hr => s4 x hx ((t2 x).1 hr), s5⟩, fun x => by simp [t2 x]⟩
 | swap A B L => exact fun s => s.swap
 | trans p q ih1 ih2 =>
  intro f s
  obtain ⟨f1, a1, a2⟩ := ih1 s
  obtain ⟨f2, b1, b2⟩ := ih2 a1
  exact ⟨f2, b1, fun x => (b2 x).trans (a2 x)⟩
theorem Sep.perm {L' : List Pl} (s : Sep F h L) (p : L.Perm L') : Sep F h L' := by
 obtain ⟨s0, s1, f, s2⟩ := s
 obtain ⟨f', s3, _⟩ := s2.perm p
 exact ⟨s0, s1, f', s3⟩
theorem Sep.up1 (s : Sep F h (A :: B :: L)) : Sep F h (B :: A :: L) := s.perm (List.Perm.swap _ _ _)
theorem Sep.up2 (s : Sep F h (A :: B :: C :: L)) : Sep F h (C :: A :: B :: L) := s.perm (((List.Perm.swap _ _ _).cons _).trans (List.Perm.swap _ _ _))
theorem Sep.dn2 (s : Sep F h (A :: B :: C :: L)) : Sep F h (B :: C :: A :: L) := s.perm ((List.Perm.swap _ _ _).trans ((List.Perm.swap _ _ _).cons _))
def plBox (b : Nat) (cs : List V) (es : Nat) : Pl :=
 ⟨fun h f => f = [b] ∧ b < h.next ∧ h.get b = some (.cells cs es .rw), fun h f ⟨e, hb, _⟩ x hx => by subst e; simp at hx; omega,
  fun h h' f ⟨e, hb, hg⟩ hl hs => ⟨e, by omega, by rw [hs b (by simp [e]), hg]⟩⟩
theorem Sep.box (s : Sep F h L) (cs : List V) (es : Nat) : Sep F (h.new (.cells cs es .rw)) (plBox h.next cs es :: L) :=
 s.alloc (a' := [h.next]) _ ⟨by simp, fun x hx _ => by have : x ≠ h.next := by omega
                                                       simp [this], by simp, by simp⟩ ⟨rfl, by simp, by simp⟩
theorem Sep.get {b : Nat} {cs : List V} {es : Nat} (s : Sep F h (plBox b cs es :: L)) : h.get b = some (.cells cs es .rw) := by
 obtain ⟨_, ⟨_, _, e⟩, _⟩ := s.head
 exact e
theorem Sep.write {b : Nat} {cs cs' : List V} {es : Nat} (s : Sep F h (plBox b cs es :: L)) : Sep F (h.put b (.cells cs' es .rw)) (plBox b cs' es :: L) := by
 obtain ⟨a, ⟨rfl, hb, _⟩, k⟩ := s.head
 refine k (a' := [b]) (plBox b cs' es) ⟨by simp, fun x hx hn => ?_, fun x hx => .inl hx, fun x hx => by simp at hx; simp; omega⟩ ⟨rfl, hb, by simp⟩
 have : x ≠ b := by simpa using hn
 simp [this]
theorem SepF.mem {N : Nat} : ∀ {L : List Pl} {f : List Nat}, SepF N h L f → ∀ A ∈ L, ∃ a, A.P h a
 | [], _, _, _, hm => by simp at hm
 | B :: L, _, ⟨a, r, rfl, s1, s2, _⟩, A, hm => by
  rcases List.mem_cons.1 hm with rfl | hm
  · exact ⟨a, s1⟩
  · exact SepF.mem s2 A hm
theorem Sep.getM {b : Nat} {cs : List V} {es : Nat} (s : Sep F h L) (hm : plBox b cs es ∈ L) : h.get b = some (.cells cs es .rw) := by
 obtain ⟨_, _, f, s⟩ := s
 obtain ⟨a, _, _, e⟩ := s.mem _ hm
 exact e
def plQu (p : V) (most next : Int) (items lost : List Msg) : Pl := ⟨fun h f => Qu h f p most next items lost, fun _ _ q => q.lt, fun _ _ _ q hl hs => q.same hl hs⟩
def plTab (p : V) (l : List En) : Pl := ⟨fun h f => Tab h f p l, fun _ _ q => q.lt, fun _ _ _ q hl hs => q.same hl hs⟩
end Go.Abs

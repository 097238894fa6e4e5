/- What is closed in the laws below: estafettelaw8.Begun, estafettelaw12.Begun: the kernel runs them. -/
import Derived.Test.YtldjlkbjbkielaaGreatDoorClo0
import Derived.Test.YtldjlkbjbkielaaGreatDoorWlk8
import Derived.Test.YtldjlkbjbkielaaGreatDoorLay8
import Derived.Test.YtldjlkbjbkielaaGreatDoorLib0
import Derived.Test.YtldjlkbjbkielaaGreatDoorLib1
set_option linter.unusedSimpArgs false
set_option linter.unusedVariables false
namespace Go.Abs
open Go Go.Proofs

theorem mixed0 : Tryz.prog.follows .mixedOrders = true := by kernel_rfl

/-- What is reckoned. -/
def PL : List (Nat × (List V → AHeap → KB → Bool)) := [(321, detB fmtB), (322, detB trimB), (287, detB cloneB), (97, detB (sortedB [324, 299, 180])), (93, colB [171, 250, 201])]

def lkL {α : Type} : List (Nat × α) → FuncId → Option α
  | [], _ => none
  | (n, a) :: l, f => if Nat.beq f n then some a else lkL l f

theorem lkL_ok {α : Type} {p : FuncId → α → Prop} : ∀ {l : List (Nat × α)}, (∀ x ∈ l, p x.1 x.2) → ∀ f g, lkL l f = some g → p f g
  | [], _, _, _, h => by cases h
  | (n, a) :: l, hp, f, g, h => by
    unfold lkL at h
    split at h
    · rename_i hf
      cases h
      rw [Nat.eq_of_beq_eq_true hf]
      exact hp (n, a) (by simp)
    · exact lkL_ok (fun x hx => hp x (by simp [hx])) f g h

theorem nI : SoundI Tryz.prog J8 (fun _ => none) := fun _ _ h => by cases h
theorem nM : MonoI (fun _ => none) := fun _ _ h => by cases h

theorem PL_sound : ∀ f g, lkL PL f = some g → SoundF Tryz.prog J8 f (anySpec g) := by
  refine lkL_ok (p := fun f g => SoundF Tryz.prog J8 f (anySpec g)) fun x hx => ?_
  simp only [PL, List.mem_cons, List.not_mem_nil, or_false] at hx
  rcases hx with rfl | rfl | rfl | rfl | rfl
  · have e : Tryz.lays173_ren.f 173 = 321 := by kernel_rfl
    have h := fmtB_sound (J := J8) J8_free Tryz.lays173 (by rw [e]; exact Tryz.call321)
    rw [e] at h
    exact detB_sound h
  · have e : Tryz.lays160_ren.f 160 = 322 := by kernel_rfl
    have h := trimB_sound (J := J8) J8_free Tryz.lays160 (by kernel_rfl) (by rw [e]; exact Tryz.call322)
    rw [e] at h
    exact detB_sound h
  · exact cloneB_sound (S.maps_clone nI nM)
  · refine sortedB_sound (fun g hg => ?_) (S.slices_Sorted_string nI nM)
    simp only [List.mem_cons, List.not_mem_nil, or_false] at hg
    rcases hg with rfl | rfl | rfl
    · exact .inl rfl
    · exact .inr (.inl rfl)
    · exact .inr (.inr rfl)
  · refine colB_sound (fun g hg => ?_) (S.slices_Collect_api_Id nI nM)
    simp only [List.mem_cons, List.not_mem_nil, or_false] at hg
    rcases hg with rfl | rfl | rfl
    · exact .inl rfl
    · exact .inr (.inl rfl)
    · exact .inr (.inr rfl)

/-- What yields true, whenever, and leaves all as it was. -/
def TrueF : Spec := fun args h K => args = [] ∧ K (.bool true) h

def trueB : List V → AHeap → Option (V × AHeap)
  | [], h => some (.bool true, h)
  | _, _ => none

theorem trueB_sound {P : Program} {J : World → Prop} {f : FuncId} (h : SoundF P J f TrueF) : SoundF P J f (anySpec (detB trueB)) := by
  refine detB_sound (h.of_imp fun args hp K hs => ?_)
  unfold fnSpec trueB at hs
  unfold TrueF
  split at hs
  · rw [kP_some] at hs
    exact ⟨rfl, hs⟩
  · simp at hs

/-- One that is run. -/
theorem closed_of {L : List (Nat × (List V → AHeap → KB → Bool))} {T : List (Nat × An)} (hL : ∀ f g, lkL L f = some g → SoundF Tryz.prog J8 f (anySpec g)) (hT : AllW Tryz.prog T) (n f : Nat)
    (h : callB Tryz.prog (lkL L) (lkA T) 200 n f [] ⟨fun _ => none, 0⟩ isT = true) : SoundF Tryz.prog J8 f TrueF :=
  SoundF.alone (callB_sound (T := lkA T) (F := 200) mixed0 hL (lkA_walked hT) n f) rfl (by simp) ⟨isT, h, fun _ _ => isT_eq⟩

theorem more_sound {L : List (Nat × (List V → AHeap → KB → Bool))} (hL : ∀ f g, lkL L f = some g → SoundF Tryz.prog J8 f (anySpec g)) {n : Nat} (h : SoundF Tryz.prog J8 n TrueF) :
    ∀ f g, lkL ((n, detB trueB) :: L) f = some g → SoundF Tryz.prog J8 f (anySpec g) := by
  intro f g hg
  unfold lkL at hg
  split at hg
  · rename_i hf
    cases hg
    rw [Nat.eq_of_beq_eq_true hf]
    exact trueB_sound h
  · exact hL f g hg

set_option maxRecDepth 100000

theorem begun1 : SoundF Tryz.prog J8 217 TrueF := closed_of PL_sound W8.TB_ok 40 217 (by kernel_rfl)
def P1 := (217, detB trueB) :: PL
theorem P1_sound : ∀ f g, lkL P1 f = some g → SoundF Tryz.prog J8 f (anySpec g) := more_sound PL_sound begun1

/-- **estafettelaw8.Begun() yields true, whenever, and leaves all as it was.** -/
theorem begun8 : SoundF Tryz.prog J8 70 TrueF := closed_of P1_sound W8.TB_ok 40 70 (by kernel_rfl)

theorem begun7 : SoundF Tryz.prog J8 218 TrueF := closed_of P1_sound W8.TB_ok 40 218 (by kernel_rfl)
def P7 := (218, detB trueB) :: P1
theorem P7_sound : ∀ f g, lkL P7 f = some g → SoundF Tryz.prog J8 f (anySpec g) := more_sound P1_sound begun7

/-- **estafettelaw12.Begun() yields true, whenever, and leaves all as it was.** -/
theorem begun12 : SoundF Tryz.prog J8 71 TrueF := closed_of P7_sound W8.TB_ok 40 71 (by kernel_rfl)

theorem S.estafettelaw8_Begun {I : FuncId → Option Spec} (_ : SoundI Tryz.prog J8 I) (_ : MonoI I) : SoundF Tryz.prog J8 70 (F.estafettelaw8_Begun ⟨I, kk⟩) := begun8
theorem S.estafettelaw12_Begun {I : FuncId → Option Spec} (_ : SoundI Tryz.prog J8 I) (_ : MonoI I) : SoundF Tryz.prog J8 71 (F.estafettelaw12_Begun ⟨I, kk⟩) := begun12

end Go.Abs

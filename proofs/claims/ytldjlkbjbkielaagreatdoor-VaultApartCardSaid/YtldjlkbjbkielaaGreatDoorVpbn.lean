/- What is closed in the laws below: estafettelaw8.Begun, estafettelaw12.Begun: the kernel runs them. -/
import Derived.Test.YtldjlkbjbkielaaGreatDoorVpaq
import Derived.Test.YtldjlkbjbkielaaGreatDoorVpbg
import Derived.Test.YtldjlkbjbkielaaGreatDoorVpbh
import Derived.Test.YtldjlkbjbkielaaGreatDoorVpao
import Derived.Test.YtldjlkbjbkielaaGreatDoorVpbl
import Derived.Test.YtldjlkbjbkielaaGreatDoorVpar
import Derived.Test.YtldjlkbjbkielaaGreatDoorProg
import Derived.Test.YtldjlkbjbkielaaGreatDoorVpbd
import Derived.Test.YtldjlkbjbkielaaGreatDoorVpbf
set_option linter.unusedSimpArgs false
set_option linter.unusedVariables false
namespace Go.Abs
open Go Go.Proofs
theorem yF : Tryz.prog.follows .mixedOrders = true := by kernel_rfl
def PU : List (Nat × (List V → aA → Ans)) := [(321, aC1 xW), (322, aC1 trimB), (287, aD8), (97, aGd [324, 299, 180]), (93, aEc [171, 250, 201])]
theorem nI : aN Tryz.prog J8 (fun _ => none) := fun _ _ h => by cases h
theorem nM : aH (fun _ => none) := fun _ _ h => by cases h
theorem aG7 : ∀ f g, lkL PU f = some g → aD Tryz.prog J8 f (kI g) := by
 refine aKl (p := fun f g => aD Tryz.prog J8 f (kI g)) fun x hx => ?_
 simp only [PU, List.mem_cons, List.not_mem_nil, or_false] at hx
 rcases hx with rfl | rfl | rfl | rfl | rfl
 · have e : Tryz.aKe.f 173 = 321 := by kernel_rfl
   have h := aR3 (J := J8) sR Tryz.aTh (by rw [e]; exact Tryz.call321)
   rw [e] at h
   exact aNg h aR4
 · have e : Tryz.aFf.f 160 = 322 := by kernel_rfl
   have h := aW0 (J := J8) sR Tryz.aKd (by kernel_rfl) (by rw [e]; exact Tryz.call322)
   rw [e] at h
   exact aNg h aW1
 · exact aQd (S.pA nI nM)
 · refine aV5 (fun g hg => ?_) (S.pJ nI nM)
   simp only [List.mem_cons, List.not_mem_nil, or_false] at hg
   rcases hg with rfl | rfl | rfl
   · exact .inl rfl
   · exact .inr (.inl rfl)
   · exact .inr (.inr rfl)
 · refine aQm (fun g hg => ?_) (S.uC nI nM)
   simp only [List.mem_cons, List.not_mem_nil, or_false] at hg
   rcases hg with rfl | rfl | rfl
   · exact .inl rfl
   · exact .inr (.inl rfl)
   · exact .inr (.inr rfl)
set_option maxRecDepth 100000
theorem aPi : aD Tryz.prog J8 217 rK := xM yF aG7 W7.wM 40 217 (by kernel_rfl)
def P1 := (217, uG) :: PU
theorem aDl : ∀ f g, lkL P1 f = some g → aD Tryz.prog J8 f (kI g) := aBj aG7 aPi
theorem aPm : aD Tryz.prog J8 70 rK := xM yF aDl W7.wM 40 70 (by kernel_rfl)
theorem aPl : aD Tryz.prog J8 218 rK := xM yF aDl W7.wM 40 218 (by kernel_rfl)
def P7 := (218, uG) :: P1
theorem aG6 : ∀ f g, lkL P7 f = some g → aD Tryz.prog J8 f (kI g) := aBj aDl aPl
theorem aPj : aD Tryz.prog J8 71 rK := xM yF aG6 W7.wM 40 71 (by kernel_rfl)
end Go.Abs
set_option maxRecDepth 100000
namespace Go.Abs
open Go Go.Proofs
def PV : List (Nat × (List V → aA → Ans)) := (70, uG) :: (71, uG) :: P7
theorem aOe : ∀ f g, lkL PV f = some g → aD Tryz.prog J8 f (kI g) := aBj (aBj aG6 aPj) aPm
theorem aPk : aD Tryz.prog J8 16 rK := xM yF aOe W7.wM 60 16 (by kernel_rfl)
end Go.Abs
set_option maxRecDepth 20000
namespace Go.Abs
open Go Go.Proofs
abbrev J : World → Prop := J8
variable {I : FuncId → Option Spec}
theorem mixed : Tryz.prog.follows .mixedOrders = true := by kernel_rfl
theorem S.jJ (hI : aN Tryz.prog J I) (mI : aH I) : aD Tryz.prog J 72 (F.jJ ⟨I, kk⟩) := by
 refine aD.aR (I := lkI []) (aV trivial) (aU _) mixed W7.A.jJ Tryz.func72 rfl (by kernel_rfl) (by kernel_rfl) Tryz.call72 fun args h K hs => ?_
 match args, hs with
 | [], hs => exact ⟨Nat.le_of_ble_eq_true (by kernel_rfl), Eq.mp (by kernel_rfl) hs⟩
theorem S.lY (hI : aN Tryz.prog J I) (mI : aH I) : aD Tryz.prog J 73 (F.lY ⟨I, kk⟩) := by
 refine aD.aR (I := lkI []) (aV trivial) (aU _) mixed W7.A.lY Tryz.func73 rfl (by kernel_rfl) (by kernel_rfl) Tryz.call73 fun args h K hs => ?_
 match args, hs with
 | [a0], hs => exact ⟨Nat.le_of_ble_eq_true (by kernel_rfl), Eq.mp (by kernel_rfl) hs⟩
theorem S.iF (hI : aN Tryz.prog J I) (mI : aH I) : aD Tryz.prog J 17 (F.iF ⟨I, kk⟩) := by
 refine aD.aR (I := lkI [(72, F.jJ ⟨I, kk⟩), (73, F.lY ⟨I, kk⟩)]) (aV ⟨S.jJ hI mI, S.lY hI mI, trivial⟩) (aU _) mixed W7.A.iF Tryz.func17 rfl (by kernel_rfl) (by kernel_rfl) Tryz.call17 fun args h K hs => ?_
 match args, hs with
 | [], hs => exact ⟨Nat.le_of_ble_eq_true (by kernel_rfl), Eq.mp (by kernel_rfl) hs⟩
theorem S.lX (hI : aN Tryz.prog J I) (mI : aH I) : aD Tryz.prog J 80 (F.lX ⟨I, kk⟩) := by
 refine aD.aR (I := lkI []) (aV trivial) (aU _) mixed W7.A.lX Tryz.func80 rfl (by kernel_rfl) (by kernel_rfl) Tryz.call80 fun args h K hs => ?_
 match args, hs with
 | [a0, a1], hs => exact ⟨Nat.le_of_ble_eq_true (by kernel_rfl), Eq.mp (by kernel_rfl) hs⟩
theorem S.mT (hI : aN Tryz.prog J I) (mI : aH I) : aD Tryz.prog J 237 (F.mT ⟨I, kk⟩) := by
 refine aD.aR (I := I) hI mI mixed W7.A.mT Tryz.func237 rfl (by kernel_rfl) (by kernel_rfl) Tryz.call237 fun args h K hs => ?_
 match args, hs with
 | [a0, a1], hs => exact ⟨Nat.le_of_ble_eq_true (by kernel_rfl), Eq.mp (by kernel_rfl) hs⟩
theorem S.mR (hI : aN Tryz.prog J I) (mI : aH I) : aD Tryz.prog J 149 (F.mR ⟨I, kk⟩) := by
 refine aD.aR (I := lkI [(237, F.mT ⟨I, kk⟩)]) (aV ⟨S.mT hI mI, trivial⟩) (aU _) mixed W7.A.mR Tryz.func149 rfl (by kernel_rfl) (by kernel_rfl) Tryz.call149 fun args h K hs => ?_
 match args, hs with
 | [a0, a1], hs => exact ⟨Nat.le_of_ble_eq_true (by kernel_rfl), Eq.mp (by kernel_rfl) hs⟩
theorem S.jR (hI : aN Tryz.prog J I) (mI : aH I) : aD Tryz.prog J 238 (F.jR ⟨I, kk⟩) := by
 refine aD.aR (I := lkI []) (aV trivial) (aU _) mixed W7.A.jR Tryz.func238 rfl (by kernel_rfl) (by kernel_rfl) Tryz.call238 fun args h K hs => ?_
 match args, hs with
 | [a0], hs => exact ⟨Nat.le_of_ble_eq_true (by kernel_rfl), Eq.mp (by kernel_rfl) hs⟩
theorem S.nH (hI : aN Tryz.prog J I) (mI : aH I) : aD Tryz.prog J 320 (F.nH ⟨I, kk⟩) := by
 refine aD.aR (I := I) hI mI mixed W7.A.nH Tryz.func320 rfl (by kernel_rfl) (by kernel_rfl) Tryz.call320 fun args h K hs => ?_
 match args, hs with
 | [a0, a1, a2], hs => exact ⟨Nat.le_of_ble_eq_true (by kernel_rfl), Eq.mp (by kernel_rfl) hs⟩
theorem S.nG (hI : aN Tryz.prog J I) (mI : aH I) : aD Tryz.prog J 279 (F.nG ⟨I, kk⟩) := by
 refine aD.aR (I := lkI [(320, F.nH ⟨I, kk⟩)]) (aV ⟨S.nH hI mI, trivial⟩) (aU _) mixed W7.A.nG Tryz.func279 rfl (by kernel_rfl) (by kernel_rfl) Tryz.call279 fun args h K hs => ?_
 match args, hs with
 | [a0, a1], hs => exact ⟨Nat.le_of_ble_eq_true (by kernel_rfl), Eq.mp (by kernel_rfl) hs⟩
theorem S.nF (hI : aN Tryz.prog J I) (mI : aH I) : aD Tryz.prog J 240 (F.nF ⟨I, kk⟩) := by
 refine aD.aR (I := lkI [(279, F.nG ⟨I, kk⟩)]) (aV ⟨S.nG hI mI, trivial⟩) (aU _) mixed W7.A.nF Tryz.func240 rfl (by kernel_rfl) (by kernel_rfl) Tryz.call240 fun args h K hs => ?_
 match args, hs with
 | [a0, a1], hs => exact ⟨Nat.le_of_ble_eq_true (by kernel_rfl), Eq.mp (by kernel_rfl) hs⟩
theorem S.jQ (hI : aN Tryz.prog J I) (mI : aH I) : aD Tryz.prog J 241 (F.jQ ⟨I, kk⟩) := by
 refine aD.aR (I := lkI []) (aV trivial) (aU _) mixed W7.A.jQ Tryz.func241 rfl (by kernel_rfl) (by kernel_rfl) Tryz.call241 fun args h K hs => ?_
 match args, hs with
 | [a0], hs => exact ⟨Nat.le_of_ble_eq_true (by kernel_rfl), Eq.mp (by kernel_rfl) hs⟩
theorem S.eM (hI : aN Tryz.prog J I) (mI : aH I) : aD Tryz.prog J 239 (F.eM ⟨I, kk⟩) := by
 refine aD.aR (I := lkI []) (aV trivial) (aU _) mixed W7.A.eM Tryz.func239 rfl (by kernel_rfl) (by kernel_rfl) Tryz.call239 fun args h K hs => ?_
 match args, hs with
 | [a0], hs => exact ⟨Nat.le_of_ble_eq_true (by kernel_rfl), Eq.mp (by kernel_rfl) hs⟩
theorem S.jP (hI : aN Tryz.prog J I) (mI : aH I) : aD Tryz.prog J 151 (F.jP ⟨I, kk⟩) := by
 refine aD.aR (I := lkI [(238, F.jR ⟨I, kk⟩), (240, F.nF ⟨I, kk⟩), (241, F.jQ ⟨I, kk⟩)]) (aV ⟨S.jR hI mI, S.nF hI mI, S.jQ hI mI, trivial⟩) (aU _) mixed W7.A.jP Tryz.func151 rfl (by kernel_rfl) (by kernel_rfl) Tryz.call151 fun args h K hs => ?_
 match args, hs with
 | [a0], hs => exact ⟨Nat.le_of_ble_eq_true (by kernel_rfl), Eq.mp (by kernel_rfl) hs⟩
theorem S.nZ (hI : aN Tryz.prog J I) (mI : aH I) : aD Tryz.prog J 150 (F.nZ ⟨I, kk⟩) := by
 refine aD.aR (I := lkI [(151, F.jP ⟨I, kk⟩)]) (aV ⟨S.jP hI mI, trivial⟩) (aU _) mixed W7.A.nZ Tryz.func150 rfl (by kernel_rfl) (by kernel_rfl) Tryz.call150 fun args h K hs => ?_
 match args, hs with
 | [a0], hs => exact ⟨Nat.le_of_ble_eq_true (by kernel_rfl), Eq.mp (by kernel_rfl) hs⟩
theorem S.jN (hI : aN Tryz.prog J I) (mI : aH I) : aD Tryz.prog J 81 (F.jN ⟨I, kk⟩) := by
 refine aD.aR (I := lkI [(149, F.mR ⟨I, kk⟩)]) (aV ⟨S.mR hI mI, trivial⟩) (aU _) mixed W7.A.jN Tryz.func81 rfl (by kernel_rfl) (by kernel_rfl) Tryz.call81 fun args h K hs => ?_
 match args, hs with
 | [a0], hs => exact ⟨Nat.le_of_ble_eq_true (by kernel_rfl), Eq.mp (by kernel_rfl) hs⟩
theorem S.eY (hI : aN Tryz.prog J I) (mI : aH I) : aD Tryz.prog J 82 (F.eY ⟨I, kk⟩) := by
 refine aD.aR (I := lkI []) (aV trivial) (aU _) mixed W7.A.eY Tryz.func82 rfl (by kernel_rfl) (by kernel_rfl) Tryz.call82 fun args h K hs => ?_
 match args, hs with
 | [a0], hs => exact ⟨Nat.le_of_ble_eq_true (by kernel_rfl), Eq.mp (by kernel_rfl) hs⟩
theorem S.jO (hI : aN Tryz.prog J I) (mI : aH I) : aD Tryz.prog J 155 (F.jO ⟨I, kk⟩) := by
 refine aD.aR (I := lkI []) (aV trivial) (aU _) mixed W7.A.jO Tryz.func155 rfl (by kernel_rfl) (by kernel_rfl) Tryz.call155 fun args h K hs => ?_
 match args, hs with
 | [a0], hs => exact ⟨Nat.le_of_ble_eq_true (by kernel_rfl), Eq.mp (by kernel_rfl) hs⟩
theorem S.pB (hI : aN Tryz.prog J I) (mI : aH I) : aD Tryz.prog J 297 (F.pB ⟨I, kk⟩) := by
 refine aD.aR (I := lkI []) (aV trivial) (aU _) mixed W7.A.pB Tryz.func297 rfl (by kernel_rfl) (by kernel_rfl) Tryz.call297 fun args h K hs => ?_
 match args, hs with
 | [a0], hs => exact ⟨Nat.le_of_ble_eq_true (by kernel_rfl), Eq.mp (by kernel_rfl) hs⟩
theorem S.lU (hI : aN Tryz.prog J I) (mI : aH I) : aD Tryz.prog J 298 (F.lU ⟨I, kk⟩) := by
 refine aD.aR (I := lkI []) (aV trivial) (aU _) mixed W7.A.lU Tryz.func298 rfl (by kernel_rfl) (by kernel_rfl) Tryz.call298 fun args h K hs => ?_
 match args, hs with
 | [a0], hs => exact ⟨Nat.le_of_ble_eq_true (by kernel_rfl), Eq.mp (by kernel_rfl) hs⟩
theorem S.iP (hI : aN Tryz.prog J I) (mI : aH I) : aD Tryz.prog J 258 (F.iP ⟨I, kk⟩) := by
 refine aD.aR (I := lkI [(297, F.pB ⟨I, kk⟩), (298, F.lU ⟨I, kk⟩)]) (aV ⟨S.pB hI mI, S.lU hI mI, trivial⟩) (aU _) mixed W7.A.iP Tryz.func258 rfl (by kernel_rfl) (by kernel_rfl) Tryz.call258 fun args h K hs => ?_
 match args, hs with
 | [a0], hs => exact ⟨Nat.le_of_ble_eq_true (by kernel_rfl), Eq.mp (by kernel_rfl) hs⟩
theorem S.oI (hI : aN Tryz.prog J I) (mI : aH I) : aD Tryz.prog J 311 (F.oI ⟨I, kk⟩) := by
 refine aD.aR (I := I) hI mI mixed W7.A.oI Tryz.func311 rfl (by kernel_rfl) (by kernel_rfl) Tryz.call311 fun args h K hs => ?_
 match args, hs with
 | [a0, a1, a2, a3], hs => exact ⟨Nat.le_of_ble_eq_true (by kernel_rfl), Eq.mp (by kernel_rfl) hs⟩
theorem Sr.fT (hI : aN Tryz.prog J I) (mI : aH I) : ∀ fuel, aD Tryz.prog J 274 (Fr.fT fuel ⟨I, kk⟩)
 | 0 => aD.no
 | fuel + 1 => by
  refine aD.aR (I := lkI [(311, F.oI ⟨I, kk⟩), (274, Fr.fT fuel ⟨I, kk⟩)]) (aV ⟨S.oI hI mI, Sr.fT hI mI fuel, trivial⟩) (aU _) mixed W7.A.fT Tryz.func274 rfl (by kernel_rfl) (by kernel_rfl) Tryz.call274 fun args h K hs => ?_
  match args, hs with
  | [a0, a1, a2, a3, a4], hs => exact ⟨Nat.le_of_ble_eq_true (by kernel_rfl), Eq.mp (by kernel_rfl) hs⟩
theorem S.fT (hI : aN Tryz.prog J I) (mI : aH I) : aD Tryz.prog J 274 (F.fT ⟨I, kk⟩) := aD.ex (Sr.fT hI mI)
theorem S.mW (hI : aN Tryz.prog J I) (mI : aH I) : aD Tryz.prog J 220 (F.mW ⟨I, kk⟩) := by
 refine aD.aR (I := lkI [(258, F.iP ⟨I, kk⟩), (274, F.fT ⟨I, kk⟩)]) (aV ⟨S.iP hI mI, S.fT hI mI, trivial⟩) (aU _) mixed W7.A.mW Tryz.func220 rfl (by kernel_rfl) (by kernel_rfl) Tryz.call220 fun args h K hs => ?_
 match args, hs with
 | [a0, a1], hs => exact ⟨Nat.le_of_ble_eq_true (by kernel_rfl), Eq.mp (by kernel_rfl) hs⟩
theorem S.mQ (hI : aN Tryz.prog J I) (mI : aH I) : aD Tryz.prog J 222 (F.mQ ⟨I, kk⟩) := by
 refine aD.aR (I := lkI []) (aV trivial) (aU _) mixed W7.A.mQ Tryz.func222 rfl (by kernel_rfl) (by kernel_rfl) Tryz.call222 fun args h K hs => ?_
 match args, hs with
 | [a0], hs => exact ⟨Nat.le_of_ble_eq_true (by kernel_rfl), Eq.mp (by kernel_rfl) hs⟩
theorem S.cmp_isNaN_string (hI : aN Tryz.prog J I) (mI : aH I) : aD Tryz.prog J 319 (F.cmp_isNaN_string ⟨I, kk⟩) := by
 refine aD.aR (I := lkI []) (aV trivial) (aU _) mixed W7.A.cmp_isNaN_string Tryz.func319 rfl (by kernel_rfl) (by kernel_rfl) Tryz.call319 fun args h K hs => ?_
 match args, hs with
 | [a0], hs => exact ⟨Nat.le_of_ble_eq_true (by kernel_rfl), Eq.mp (by kernel_rfl) hs⟩
theorem S.kJ (hI : aN Tryz.prog J I) (mI : aH I) : aD Tryz.prog J 275 (F.kJ ⟨I, kk⟩) := by
 refine aD.aR (I := lkI [(319, F.cmp_isNaN_string ⟨I, kk⟩)]) (aV ⟨S.cmp_isNaN_string hI mI, trivial⟩) (aU _) mixed W7.A.kJ Tryz.func275 rfl (by kernel_rfl) (by kernel_rfl) Tryz.call275 fun args h K hs => ?_
 match args, hs with
 | [a0, a1], hs => exact ⟨Nat.le_of_ble_eq_true (by kernel_rfl), Eq.mp (by kernel_rfl) hs⟩
theorem S.iI (hI : aN Tryz.prog J I) (mI : aH I) : aD Tryz.prog J 251 (F.iI ⟨I, kk⟩) := by
 refine aD.aR (I := lkI []) (aV trivial) (aU _) mixed W7.A.iI Tryz.func251 rfl (by kernel_rfl) (by kernel_rfl) Tryz.call251 fun args h K hs => ?_
 match args, hs with
 | [a0], hs => exact ⟨Nat.le_of_ble_eq_true (by kernel_rfl), Eq.mp (by kernel_rfl) hs⟩
theorem S.fB (hI : aN Tryz.prog J I) (mI : aH I) : aD Tryz.prog J 221 (F.fB ⟨I, kk⟩) := by
 refine aD.aR (I := lkI [(275, F.kJ ⟨I, kk⟩), (251, F.iI ⟨I, kk⟩)]) (aV ⟨S.kJ hI mI, S.iI hI mI, trivial⟩) (aU _) mixed W7.A.fB Tryz.func221 rfl (by kernel_rfl) (by kernel_rfl) Tryz.call221 fun args h K hs => ?_
 match args, hs with
 | [a0, a1], hs => exact ⟨Nat.le_of_ble_eq_true (by kernel_rfl), Eq.mp (by kernel_rfl) hs⟩
theorem S.fO (hI : aN Tryz.prog J I) (mI : aH I) : aD Tryz.prog J 143 (F.fO ⟨I, kk⟩) := by
 refine aD.aR (I := lkI [(220, F.mW ⟨I, kk⟩), (222, F.mQ ⟨I, kk⟩)]) (aV ⟨S.mW hI mI, S.mQ hI mI, trivial⟩) (aU _) mixed W7.A.fO Tryz.func143 rfl (by kernel_rfl) (by kernel_rfl) Tryz.call143 fun args h K hs => ?_
 match args, hs with
 | [a0], hs => exact ⟨Nat.le_of_ble_eq_true (by kernel_rfl), Eq.mp (by kernel_rfl) hs⟩
theorem S.jK (hI : aN Tryz.prog J I) (mI : aH I) : aD Tryz.prog J 84 (F.jK ⟨I, kk⟩) := by
 refine aD.aR (I := lkI [(155, F.jO ⟨I, kk⟩), (143, F.fO ⟨I, kk⟩)]) (aV ⟨S.jO hI mI, S.fO hI mI, trivial⟩) (aU _) mixed W7.A.jK Tryz.func84 rfl (by kernel_rfl) (by kernel_rfl) Tryz.call84 fun args h K hs => ?_
 match args, hs with
 | [a0], hs => exact ⟨Nat.le_of_ble_eq_true (by kernel_rfl), Eq.mp (by kernel_rfl) hs⟩
theorem S.mU (hI : aN Tryz.prog J I) (mI : aH I) : aD Tryz.prog J 242 (F.mU ⟨I, kk⟩) := by
 refine aD.aR (I := I) hI mI mixed W7.A.mU Tryz.func242 rfl (by kernel_rfl) (by kernel_rfl) Tryz.call242 fun args h K hs => ?_
 match args, hs with
 | [a0, a1], hs => exact ⟨Nat.le_of_ble_eq_true (by kernel_rfl), Eq.mp (by kernel_rfl) hs⟩
theorem S.lC (hI : aN Tryz.prog J I) (mI : aH I) : aD Tryz.prog J 152 (F.lC ⟨I, kk⟩) := by
 refine aD.aR (I := lkI [(242, F.mU ⟨I, kk⟩)]) (aV ⟨S.mU hI mI, trivial⟩) (aU _) mixed W7.A.lC Tryz.func152 rfl (by kernel_rfl) (by kernel_rfl) Tryz.call152 fun args h K hs => ?_
 match args, hs with
 | [a0, a1], hs => exact ⟨Nat.le_of_ble_eq_true (by kernel_rfl), Eq.mp (by kernel_rfl) hs⟩
theorem S.jL (hI : aN Tryz.prog J I) (mI : aH I) : aD Tryz.prog J 154 (F.jL ⟨I, kk⟩) := by
 refine aD.aR (I := lkI []) (aV trivial) (aU _) mixed W7.A.jL Tryz.func154 rfl (by kernel_rfl) (by kernel_rfl) Tryz.call154 fun args h K hs => ?_
 match args, hs with
 | [a0, a1], hs => exact ⟨Nat.le_of_ble_eq_true (by kernel_rfl), Eq.mp (by kernel_rfl) hs⟩
theorem S.jI (hI : aN Tryz.prog J I) (mI : aH I) : aD Tryz.prog J 153 (F.jI ⟨I, kk⟩) := by
 refine aD.aR (I := lkI [(154, F.jL ⟨I, kk⟩)]) (aV ⟨S.jL hI mI, trivial⟩) (aU _) mixed W7.A.jI Tryz.func153 rfl (by kernel_rfl) (by kernel_rfl) Tryz.call153 fun args h K hs => ?_
 match args, hs with
 | [a0, a1], hs => exact ⟨Nat.le_of_ble_eq_true (by kernel_rfl), Eq.mp (by kernel_rfl) hs⟩
theorem S.lT (hI : aN Tryz.prog J I) (mI : aH I) : aD Tryz.prog J 83 (F.lT ⟨I, kk⟩) := by
 refine aD.aR (I := lkI [(152, F.lC ⟨I, kk⟩)]) (aV ⟨S.lC hI mI, trivial⟩) (aU _) mixed W7.A.lT Tryz.func83 rfl (by kernel_rfl) (by kernel_rfl) Tryz.call83 fun args h K hs => ?_
 match args, hs with
 | [a0, a1, a2], hs => exact ⟨Nat.le_of_ble_eq_true (by kernel_rfl), Eq.mp (by kernel_rfl) hs⟩
theorem S.mP (hI : aN Tryz.prog J I) (mI : aH I) : aD Tryz.prog J 85 (F.mP ⟨I, kk⟩) := by
 refine aD.aR (I := lkI []) (aV trivial) (aU _) mixed W7.A.mP Tryz.func85 rfl (by kernel_rfl) (by kernel_rfl) Tryz.call85 fun args h K hs => ?_
 match args, hs with
 | [a0], hs => exact ⟨Nat.le_of_ble_eq_true (by kernel_rfl), Eq.mp (by kernel_rfl) hs⟩
theorem S.nW (hI : aN Tryz.prog J I) (mI : aH I) : aD Tryz.prog J 254 (F.nW ⟨I, kk⟩) := by
 refine aD.aR (I := lkI [(287, F.pA ⟨I, kk⟩)]) (aV ⟨S.pA hI mI, trivial⟩) (aU _) mixed W7.A.nW Tryz.func254 rfl (by kernel_rfl) (by kernel_rfl) Tryz.call254 fun args h K hs => ?_
 match args, hs with
 | [a0], hs => exact ⟨Nat.le_of_ble_eq_true (by kernel_rfl), Eq.mp (by kernel_rfl) hs⟩
theorem S.jY (hI : aN Tryz.prog J I) (mI : aH I) : aD Tryz.prog J 175 (F.jY ⟨I, kk⟩) := by
 refine aD.aR (I := lkI [(254, F.nW ⟨I, kk⟩)]) (aV ⟨S.nW hI mI, trivial⟩) (aU _) mixed W7.A.jY Tryz.func175 rfl (by kernel_rfl) (by kernel_rfl) Tryz.call175 fun args h K hs => ?_
 match args, hs with
 | [a0], hs => exact ⟨Nat.le_of_ble_eq_true (by kernel_rfl), Eq.mp (by kernel_rfl) hs⟩
theorem S.fG (hI : aN Tryz.prog J I) (mI : aH I) : aD Tryz.prog J 99 (F.fG ⟨I, kk⟩) := by
 refine aD.aR (I := lkI []) (aV trivial) (aU _) mixed W7.A.fG Tryz.func99 rfl (by kernel_rfl) (by kernel_rfl) Tryz.call99 fun args h K hs => ?_
 match args, hs with
 | [a0], hs => exact ⟨Nat.le_of_ble_eq_true (by kernel_rfl), Eq.mp (by kernel_rfl) hs⟩
theorem S.jU (hI : aN Tryz.prog J I) (mI : aH I) : aD Tryz.prog J 176 (F.jU ⟨I, kk⟩) := by
 refine aD.aR (I := lkI [(99, F.fG ⟨I, kk⟩)]) (aV ⟨S.fG hI mI, trivial⟩) (aU _) mixed W7.A.jU Tryz.func176 rfl (by kernel_rfl) (by kernel_rfl) Tryz.call176 fun args h K hs => ?_
 match args, hs with
 | [a0], hs => exact ⟨Nat.le_of_ble_eq_true (by kernel_rfl), Eq.mp (by kernel_rfl) hs⟩
theorem S.nV (hI : aN Tryz.prog J I) (mI : aH I) : aD Tryz.prog J 255 (F.nV ⟨I, kk⟩) := by
 refine aD.aR (I := lkI [(287, F.pA ⟨I, kk⟩)]) (aV ⟨S.pA hI mI, trivial⟩) (aU _) mixed W7.A.nV Tryz.func255 rfl (by kernel_rfl) (by kernel_rfl) Tryz.call255 fun args h K hs => ?_
 match args, hs with
 | [a0], hs => exact ⟨Nat.le_of_ble_eq_true (by kernel_rfl), Eq.mp (by kernel_rfl) hs⟩
theorem S.kD (hI : aN Tryz.prog J I) (mI : aH I) : aD Tryz.prog J 177 (F.kD ⟨I, kk⟩) := by
 refine aD.aR (I := lkI [(82, F.eY ⟨I, kk⟩), (255, F.nV ⟨I, kk⟩)]) (aV ⟨S.eY hI mI, S.nV hI mI, trivial⟩) (aU _) mixed W7.A.kD Tryz.func177 rfl (by kernel_rfl) (by kernel_rfl) Tryz.call177 fun args h K hs => ?_
 match args, hs with
 | [a0], hs => exact ⟨Nat.le_of_ble_eq_true (by kernel_rfl), Eq.mp (by kernel_rfl) hs⟩
theorem S.eE (hI : aN Tryz.prog J I) (mI : aH I) : aD Tryz.prog J 96 (F.eE ⟨I, kk⟩) := by
 refine aD.aR (I := lkI [(175, F.jY ⟨I, kk⟩), (176, F.jU ⟨I, kk⟩), (177, F.kD ⟨I, kk⟩)]) (aV ⟨S.jY hI mI, S.jU hI mI, S.kD hI mI, trivial⟩) (aU _) mixed W7.A.eE Tryz.func96 rfl (by kernel_rfl) (by kernel_rfl) Tryz.call96 fun args h K hs => ?_
 match args, hs with
 | [a0], hs => exact ⟨Nat.le_of_ble_eq_true (by kernel_rfl), Eq.mp (by kernel_rfl) hs⟩
theorem S.nQ (hI : aN Tryz.prog J I) (mI : aH I) : aD Tryz.prog J 156 (F.nQ ⟨I, kk⟩) := by
 refine aD.aR (I := lkI [(96, F.eE ⟨I, kk⟩)]) (aV ⟨S.eE hI mI, trivial⟩) (aU _) mixed W7.A.nQ Tryz.func156 rfl (by kernel_rfl) (by kernel_rfl) Tryz.call156 fun args h K hs => ?_
 match args, hs with
 | [a0, a1, a2], hs => exact ⟨Nat.le_of_ble_eq_true (by kernel_rfl), Eq.mp (by kernel_rfl) hs⟩
theorem S.nN (hI : aN Tryz.prog J I) (mI : aH I) : aD Tryz.prog J 157 (F.nN ⟨I, kk⟩) := by
 refine aD.aR (I := lkI []) (aV trivial) (aU _) mixed W7.A.nN Tryz.func157 rfl (by kernel_rfl) (by kernel_rfl) Tryz.call157 fun args h K hs => ?_
 match args, hs with
 | [a0, a1], hs => exact ⟨Nat.le_of_ble_eq_true (by kernel_rfl), Eq.mp (by kernel_rfl) hs⟩
theorem S.jX (hI : aN Tryz.prog J I) (mI : aH I) : aD Tryz.prog J 209 (F.jX ⟨I, kk⟩) := by
 refine aD.aR (I := lkI []) (aV trivial) (aU _) mixed W7.A.jX Tryz.func209 rfl (by kernel_rfl) (by kernel_rfl) Tryz.call209 fun args h K hs => ?_
 match args, hs with
 | [], hs => exact ⟨Nat.le_of_ble_eq_true (by kernel_rfl), Eq.mp (by kernel_rfl) hs⟩
theorem S.jT (hI : aN Tryz.prog J I) (mI : aH I) : aD Tryz.prog J 210 (F.jT ⟨I, kk⟩) := by
 refine aD.aR (I := lkI []) (aV trivial) (aU _) mixed W7.A.jT Tryz.func210 rfl (by kernel_rfl) (by kernel_rfl) Tryz.call210 fun args h K hs => ?_
 match args, hs with
 | [a0], hs => exact ⟨Nat.le_of_ble_eq_true (by kernel_rfl), Eq.mp (by kernel_rfl) hs⟩
theorem S.jZ (hI : aN Tryz.prog J I) (mI : aH I) : aD Tryz.prog J 211 (F.jZ ⟨I, kk⟩) := by
 refine aD.aR (I := lkI []) (aV trivial) (aU _) mixed W7.A.jZ Tryz.func211 rfl (by kernel_rfl) (by kernel_rfl) Tryz.call211 fun args h K hs => ?_
 match args, hs with
 | [], hs => exact ⟨Nat.le_of_ble_eq_true (by kernel_rfl), Eq.mp (by kernel_rfl) hs⟩
theorem S.fU (hI : aN Tryz.prog J I) (mI : aH I) : aD Tryz.prog J 158 (F.fU ⟨I, kk⟩) := by
 refine aD.aR (I := lkI [(209, F.jX ⟨I, kk⟩), (210, F.jT ⟨I, kk⟩), (211, F.jZ ⟨I, kk⟩)]) (aV ⟨S.jX hI mI, S.jT hI mI, S.jZ hI mI, trivial⟩) (aU _) mixed W7.A.fU Tryz.func158 rfl (by kernel_rfl) (by kernel_rfl) Tryz.call158 fun args h K hs => ?_
 match args, hs with
 | [a0, a1], hs => exact ⟨Nat.le_of_ble_eq_true (by kernel_rfl), Eq.mp (by kernel_rfl) hs⟩
theorem S.iE (hI : aN Tryz.prog J I) (mI : aH I) : aD Tryz.prog J 34 (F.iE ⟨I, kk⟩) := by
 refine aD.aR (I := lkI []) (aV trivial) (aU _) mixed W7.A.iE Tryz.func34 rfl (by kernel_rfl) (by kernel_rfl) Tryz.call34 fun args h K hs => ?_
 match args, hs with
 | [a0, a1, a2], hs => exact ⟨Nat.le_of_ble_eq_true (by kernel_rfl), Eq.mp (by kernel_rfl) hs⟩
theorem S.dK (hI : aN Tryz.prog J I) (mI : aH I) : aD Tryz.prog J 35 (F.dK ⟨I, kk⟩) := by
 refine aD.aR (I := lkI []) (aV trivial) (aU _) mixed W7.A.dK Tryz.func35 rfl (by kernel_rfl) (by kernel_rfl) Tryz.call35 fun args h K hs => ?_
 match args, hs with
 | [a0, a1], hs => exact ⟨Nat.le_of_ble_eq_true (by kernel_rfl), Eq.mp (by kernel_rfl) hs⟩
theorem S.iD (hI : aN Tryz.prog J I) (mI : aH I) : aD Tryz.prog J 144 (F.iD ⟨I, kk⟩) := by
 refine aD.aR (I := lkI [(35, F.dK ⟨I, kk⟩)]) (aV ⟨S.dK hI mI, trivial⟩) (aU _) mixed W7.A.iD Tryz.func144 rfl (by kernel_rfl) (by kernel_rfl) Tryz.call144 fun args h K hs => ?_
 match args, hs with
 | [a0, a1], hs => exact ⟨Nat.le_of_ble_eq_true (by kernel_rfl), Eq.mp (by kernel_rfl) hs⟩
theorem S.lF (hI : aN Tryz.prog J I) (mI : aH I) : aD Tryz.prog J 243 (F.lF ⟨I, kk⟩) := by
 refine aD.aR (I := lkI [(34, F.iE ⟨I, kk⟩), (144, F.iD ⟨I, kk⟩), (35, F.dK ⟨I, kk⟩)]) (aV ⟨S.iE hI mI, S.iD hI mI, S.dK hI mI, trivial⟩) (aU _) mixed W7.A.lF Tryz.func243 rfl (by kernel_rfl) (by kernel_rfl) Tryz.call243 fun args h K hs => ?_
 match args, hs with
 | [a0, a1], hs => exact ⟨Nat.le_of_ble_eq_true (by kernel_rfl), Eq.mp (by kernel_rfl) hs⟩
theorem S.mK (hI : aN Tryz.prog J I) (mI : aH I) : aD Tryz.prog J 212 (F.mK ⟨I, kk⟩) := by
 refine aD.aR (I := lkI []) (aV trivial) (aU _) mixed W7.A.mK Tryz.func212 rfl (by kernel_rfl) (by kernel_rfl) Tryz.call212 fun args h K hs => ?_
 match args, hs with
 | [a0, a1], hs => exact ⟨Nat.le_of_ble_eq_true (by kernel_rfl), Eq.mp (by kernel_rfl) hs⟩
theorem S.cZ (hI : aN Tryz.prog J I) (mI : aH I) : aD Tryz.prog J 280 (F.cZ ⟨I, kk⟩) := by
 refine aD.aR (I := lkI [(321, F.yV ⟨I, kk⟩)]) (aV ⟨S.yV hI mI, trivial⟩) (aU _) mixed W7.A.cZ Tryz.func280 rfl (by kernel_rfl) (by kernel_rfl) Tryz.call280 fun args h K hs => ?_
 match args, hs with
 | [a0], hs => exact ⟨Nat.le_of_ble_eq_true (by kernel_rfl), Eq.mp (by kernel_rfl) hs⟩
theorem S.fR (hI : aN Tryz.prog J I) (mI : aH I) : aD Tryz.prog J 269 (F.fR ⟨I, kk⟩) := by
 refine aD.aR (I := lkI []) (aV trivial) (aU _) mixed W7.A.fR Tryz.func269 rfl (by kernel_rfl) (by kernel_rfl) Tryz.call269 fun args h K hs => ?_
 match args, hs with
 | [a0, a1, a2], hs => exact ⟨Nat.le_of_ble_eq_true (by kernel_rfl), Eq.mp (by kernel_rfl) hs⟩
theorem S.lA (hI : aN Tryz.prog J I) (mI : aH I) : aD Tryz.prog J 213 (F.lA ⟨I, kk⟩) := by
 refine aD.aR (I := lkI [(269, F.fR ⟨I, kk⟩)]) (aV ⟨S.fR hI mI, trivial⟩) (aU _) mixed W7.A.lA Tryz.func213 rfl (by kernel_rfl) (by kernel_rfl) Tryz.call213 fun args h K hs => ?_
 match args, hs with
 | [a0, a1, a2], hs => exact ⟨Nat.le_of_ble_eq_true (by kernel_rfl), Eq.mp (by kernel_rfl) hs⟩
theorem S.fV (hI : aN Tryz.prog J I) (mI : aH I) : aD Tryz.prog J 281 (F.fV ⟨I, kk⟩) := by
 refine aD.aR (I := lkI [(322, F.yW ⟨I, kk⟩), (323, F.wH ⟨I, kk⟩)]) (aV ⟨S.yW hI mI, S.wH hI mI, trivial⟩) (aU _) mixed W7.A.fV Tryz.func281 rfl (by kernel_rfl) (by kernel_rfl) Tryz.call281 fun args h K hs => ?_
 match args, hs with
 | [a0], hs => exact ⟨Nat.le_of_ble_eq_true (by kernel_rfl), Eq.mp (by kernel_rfl) hs⟩
theorem S.mS (hI : aN Tryz.prog J I) (mI : aH I) : aD Tryz.prog J 270 (F.mS ⟨I, kk⟩) := by
 refine aD.aR (I := I) hI mI mixed W7.A.mS Tryz.func270 rfl (by kernel_rfl) (by kernel_rfl) Tryz.call270 fun args h K hs => ?_
 match args, hs with
 | [a0, a1], hs => exact ⟨Nat.le_of_ble_eq_true (by kernel_rfl), Eq.mp (by kernel_rfl) hs⟩
theorem S.gI (hI : aN Tryz.prog J I) (mI : aH I) : aD Tryz.prog J 271 (F.gI ⟨I, kk⟩) := by
 refine aD.aR (I := lkI []) (aV trivial) (aU _) mixed W7.A.gI Tryz.func271 rfl (by kernel_rfl) (by kernel_rfl) Tryz.call271 fun args h K hs => ?_
 match args, hs with
 | [a0, a1, a2, a3], hs => exact ⟨Nat.le_of_ble_eq_true (by kernel_rfl), Eq.mp (by kernel_rfl) hs⟩
theorem S.mH (hI : aN Tryz.prog J I) (mI : aH I) : aD Tryz.prog J 214 (F.mH ⟨I, kk⟩) := by
 refine aD.aR (I := lkI [(270, F.mS ⟨I, kk⟩), (269, F.fR ⟨I, kk⟩)]) (aV ⟨S.mS hI mI, S.fR hI mI, trivial⟩) (aU _) mixed W7.A.mH Tryz.func214 rfl (by kernel_rfl) (by kernel_rfl) Tryz.call214 fun args h K hs => ?_
 match args, hs with
 | [a0, a1, a2, a3], hs => exact ⟨Nat.le_of_ble_eq_true (by kernel_rfl), Eq.mp (by kernel_rfl) hs⟩
theorem S.mJ (hI : aN Tryz.prog J I) (mI : aH I) : aD Tryz.prog J 282 (F.mJ ⟨I, kk⟩) := by
 refine aD.aR (I := lkI [(269, F.fR ⟨I, kk⟩)]) (aV ⟨S.fR hI mI, trivial⟩) (aU _) mixed W7.A.mJ Tryz.func282 rfl (by kernel_rfl) (by kernel_rfl) Tryz.call282 fun args h K hs => ?_
 match args, hs with
 | [a0], hs => exact ⟨Nat.le_of_ble_eq_true (by kernel_rfl), Eq.mp (by kernel_rfl) hs⟩
theorem S.lE (hI : aN Tryz.prog J I) (mI : aH I) : aD Tryz.prog J 244 (F.lE ⟨I, kk⟩) := by
 refine aD.aR (I := lkI [(212, F.mK ⟨I, kk⟩), (280, F.cZ ⟨I, kk⟩), (213, F.lA ⟨I, kk⟩), (281, F.fV ⟨I, kk⟩), (214, F.mH ⟨I, kk⟩), (282, F.mJ ⟨I, kk⟩)]) (aV ⟨S.mK hI mI, S.cZ hI mI, S.lA hI mI, S.fV hI mI, S.mH hI mI, S.mJ hI mI, trivial⟩) (aU _) mixed W7.A.lE Tryz.func244 rfl (by kernel_rfl) (by kernel_rfl) Tryz.call244 fun args h K hs => ?_
 match args, hs with
 | [a0, a1, a2], hs => exact ⟨Nat.le_of_ble_eq_true (by kernel_rfl), Eq.mp (by kernel_rfl) hs⟩
theorem S.eQ (hI : aN Tryz.prog J I) (mI : aH I) : aD Tryz.prog J 248 (F.eQ ⟨I, kk⟩) := by
 refine aD.aR (I := lkI []) (aV trivial) (aU _) mixed W7.A.eQ Tryz.func248 rfl (by kernel_rfl) (by kernel_rfl) Tryz.call248 fun args h K hs => ?_
 match args, hs with
 | [a0], hs => exact ⟨Nat.le_of_ble_eq_true (by kernel_rfl), Eq.mp (by kernel_rfl) hs⟩
theorem S.nJ (hI : aN Tryz.prog J I) (mI : aH I) : aD Tryz.prog J 215 (F.nJ ⟨I, kk⟩) := by
 refine aD.aR (I := lkI [(248, F.eQ ⟨I, kk⟩)]) (aV ⟨S.eQ hI mI, trivial⟩) (aU _) mixed W7.A.nJ Tryz.func215 rfl (by kernel_rfl) (by kernel_rfl) Tryz.call215 fun args h K hs => ?_
 match args, hs with
 | [a0, a1], hs => exact ⟨Nat.le_of_ble_eq_true (by kernel_rfl), Eq.mp (by kernel_rfl) hs⟩
theorem S.fH (hI : aN Tryz.prog J I) (mI : aH I) : aD Tryz.prog J 184 (F.fH ⟨I, kk⟩) := by
 refine aD.aR (I := lkI []) (aV trivial) (aU _) mixed W7.A.fH Tryz.func184 rfl (by kernel_rfl) (by kernel_rfl) Tryz.call184 fun args h K hs => ?_
 match args, hs with
 | [a0, a1], hs => exact ⟨Nat.le_of_ble_eq_true (by kernel_rfl), Eq.mp (by kernel_rfl) hs⟩
theorem S.iY (hI : aN Tryz.prog J I) (mI : aH I) : aD Tryz.prog J 167 (F.iY ⟨I, kk⟩) := by
 refine aD.aR (I := lkI [(184, F.fH ⟨I, kk⟩), (248, F.eQ ⟨I, kk⟩), (82, F.eY ⟨I, kk⟩)]) (aV ⟨S.fH hI mI, S.eQ hI mI, S.eY hI mI, trivial⟩) (aU _) mixed W7.A.iY Tryz.func167 rfl (by kernel_rfl) (by kernel_rfl) Tryz.call167 fun args h K hs => ?_
 match args, hs with
 | [a0, a1, a2], hs => exact ⟨Nat.le_of_ble_eq_true (by kernel_rfl), Eq.mp (by kernel_rfl) hs⟩
theorem S.nK (hI : aN Tryz.prog J I) (mI : aH I) : aD Tryz.prog J 216 (F.nK ⟨I, kk⟩) := by
 refine aD.aR (I := lkI [(184, F.fH ⟨I, kk⟩), (248, F.eQ ⟨I, kk⟩)]) (aV ⟨S.fH hI mI, S.eQ hI mI, trivial⟩) (aU _) mixed W7.A.nK Tryz.func216 rfl (by kernel_rfl) (by kernel_rfl) Tryz.call216 fun args h K hs => ?_
 match args, hs with
 | [a0, a1, a2, a3], hs => exact ⟨Nat.le_of_ble_eq_true (by kernel_rfl), Eq.mp (by kernel_rfl) hs⟩
theorem S.gK (hI : aN Tryz.prog J I) (mI : aH I) : aD Tryz.prog J 245 (F.gK ⟨I, kk⟩) := by
 refine aD.aR (I := lkI [(215, F.nJ ⟨I, kk⟩), (280, F.cZ ⟨I, kk⟩), (167, F.iY ⟨I, kk⟩), (281, F.fV ⟨I, kk⟩), (216, F.nK ⟨I, kk⟩)]) (aV ⟨S.nJ hI mI, S.cZ hI mI, S.iY hI mI, S.fV hI mI, S.nK hI mI, trivial⟩) (aU _) mixed W7.A.gK Tryz.func245 rfl (by kernel_rfl) (by kernel_rfl) Tryz.call245 fun args h K hs => ?_
 match args, hs with
 | [a0, a1], hs => exact ⟨Nat.le_of_ble_eq_true (by kernel_rfl), Eq.mp (by kernel_rfl) hs⟩
theorem S.eZ (hI : aN Tryz.prog J I) (mI : aH I) : aD Tryz.prog J 159 (F.eZ ⟨I, kk⟩) := by
 refine aD.aR (I := lkI [(243, F.lF ⟨I, kk⟩), (244, F.lE ⟨I, kk⟩), (245, F.gK ⟨I, kk⟩)]) (aV ⟨S.lF hI mI, S.lE hI mI, S.gK hI mI, trivial⟩) (aU _) mixed W7.A.eZ Tryz.func159 rfl (by kernel_rfl) (by kernel_rfl) Tryz.call159 fun args h K hs => ?_
 match args, hs with
 | [a0, a1, a2], hs => exact ⟨Nat.le_of_ble_eq_true (by kernel_rfl), Eq.mp (by kernel_rfl) hs⟩
theorem S.nO (hI : aN Tryz.prog J I) (mI : aH I) : aD Tryz.prog J 86 (F.nO ⟨I, kk⟩) := by
 refine aD.aR (I := lkI [(156, F.nQ ⟨I, kk⟩), (157, F.nN ⟨I, kk⟩), (158, F.fU ⟨I, kk⟩), (159, F.eZ ⟨I, kk⟩)]) (aV ⟨S.nQ hI mI, S.nN hI mI, S.fU hI mI, S.eZ hI mI, trivial⟩) (aU _) mixed W7.A.nO Tryz.func86 rfl (by kernel_rfl) (by kernel_rfl) Tryz.call86 fun args h K hs => ?_
 match args, hs with
 | [a0, a1, a2], hs => exact ⟨Nat.le_of_ble_eq_true (by kernel_rfl), Eq.mp (by kernel_rfl) hs⟩
theorem S.iO (hI : aN Tryz.prog J I) (mI : aH I) : aD Tryz.prog J 75 (F.iO ⟨I, kk⟩) := by
 refine aD.aR (I := lkI [(143, F.fO ⟨I, kk⟩)]) (aV ⟨S.fO hI mI, trivial⟩) (aU _) mixed W7.A.iO Tryz.func75 rfl (by kernel_rfl) (by kernel_rfl) Tryz.call75 fun args h K hs => ?_
 match args, hs with
 | [a0, a1], hs => exact ⟨Nat.le_of_ble_eq_true (by kernel_rfl), Eq.mp (by kernel_rfl) hs⟩
theorem S.iN (hI : aN Tryz.prog J I) (mI : aH I) : aD Tryz.prog J 76 (F.iN ⟨I, kk⟩) := by
 refine aD.aR (I := lkI [(75, F.iO ⟨I, kk⟩)]) (aV ⟨S.iO hI mI, trivial⟩) (aU _) mixed W7.A.iN Tryz.func76 rfl (by kernel_rfl) (by kernel_rfl) Tryz.call76 fun args h K hs => ?_
 match args, hs with
 | [a0, a1], hs => exact ⟨Nat.le_of_ble_eq_true (by kernel_rfl), Eq.mp (by kernel_rfl) hs⟩
theorem S.gM (hI : aN Tryz.prog J I) (mI : aH I) : aD Tryz.prog J 22 (F.gM ⟨I, kk⟩) := by
 refine aD.aR (I := lkI [(80, F.lX ⟨I, kk⟩), (81, F.jN ⟨I, kk⟩), (82, F.eY ⟨I, kk⟩), (84, F.jK ⟨I, kk⟩), (83, F.lT ⟨I, kk⟩), (85, F.mP ⟨I, kk⟩), (86, F.nO ⟨I, kk⟩), (76, F.iN ⟨I, kk⟩)]) (aV ⟨S.lX hI mI, S.jN hI mI, S.eY hI mI, S.jK hI mI, S.lT hI mI, S.mP hI mI, S.nO hI mI, S.iN hI mI, trivial⟩) (aU _) mixed W7.A.gM Tryz.func22 rfl (by kernel_rfl) (by kernel_rfl) Tryz.call22 fun args h K hs => ?_
 match args, hs with
 | [a0, a1, a2, a3], hs => exact ⟨Nat.le_of_ble_eq_true (by kernel_rfl), Eq.mp (by kernel_rfl) hs⟩
theorem S.lW (hI : aN Tryz.prog J I) (mI : aH I) : aD Tryz.prog J 74 (F.lW ⟨I, kk⟩) := by
 refine aD.aR (I := lkI []) (aV trivial) (aU _) mixed W7.A.lW Tryz.func74 rfl (by kernel_rfl) (by kernel_rfl) Tryz.call74 fun args h K hs => ?_
 match args, hs with
 | [a0, a1], hs => exact ⟨Nat.le_of_ble_eq_true (by kernel_rfl), Eq.mp (by kernel_rfl) hs⟩
theorem S.nP (hI : aN Tryz.prog J I) (mI : aH I) : aD Tryz.prog J 77 (F.nP ⟨I, kk⟩) := by
 refine aD.aR (I := lkI [(35, F.dK ⟨I, kk⟩), (34, F.iE ⟨I, kk⟩), (144, F.iD ⟨I, kk⟩)]) (aV ⟨S.dK hI mI, S.iE hI mI, S.iD hI mI, trivial⟩) (aU _) mixed W7.A.nP Tryz.func77 rfl (by kernel_rfl) (by kernel_rfl) Tryz.call77 fun args h K hs => ?_
 match args, hs with
 | [a0, a1, a2, a3], hs => exact ⟨Nat.le_of_ble_eq_true (by kernel_rfl), Eq.mp (by kernel_rfl) hs⟩
theorem S.gL (hI : aN Tryz.prog J I) (mI : aH I) : aD Tryz.prog J 19 (F.gL ⟨I, kk⟩) := by
 refine aD.aR (I := lkI [(74, F.lW ⟨I, kk⟩), (75, F.iO ⟨I, kk⟩), (76, F.iN ⟨I, kk⟩), (77, F.nP ⟨I, kk⟩)]) (aV ⟨S.lW hI mI, S.iO hI mI, S.iN hI mI, S.nP hI mI, trivial⟩) (aU _) mixed W7.A.gL Tryz.func19 rfl (by kernel_rfl) (by kernel_rfl) Tryz.call19 fun args h K hs => ?_
 match args, hs with
 | [a0, a1, a2], hs => exact ⟨Nat.le_of_ble_eq_true (by kernel_rfl), Eq.mp (by kernel_rfl) hs⟩
theorem S.nL (hI : aN Tryz.prog J I) (mI : aH I) : aD Tryz.prog J 33 (F.nL ⟨I, kk⟩) := by
 refine aD.aR (I := lkI [(96, F.eE ⟨I, kk⟩)]) (aV ⟨S.eE hI mI, trivial⟩) (aU _) mixed W7.A.nL Tryz.func33 rfl (by kernel_rfl) (by kernel_rfl) Tryz.call33 fun args h K hs => ?_
 match args, hs with
 | [a0, a1], hs => exact ⟨Nat.le_of_ble_eq_true (by kernel_rfl), Eq.mp (by kernel_rfl) hs⟩
theorem S.nX (hI : aN Tryz.prog J I) (mI : aH I) : aD Tryz.prog J 173 (F.nX ⟨I, kk⟩) := by
 refine aD.aR (I := lkI []) (aV trivial) (aU _) mixed W7.A.nX Tryz.func173 rfl (by kernel_rfl) (by kernel_rfl) Tryz.call173 fun args h K hs => ?_
 match args, hs with
 | [a0], hs => exact ⟨Nat.le_of_ble_eq_true (by kernel_rfl), Eq.mp (by kernel_rfl) hs⟩
theorem S.oH (hI : aN Tryz.prog J I) (mI : aH I) : aD Tryz.prog J 325 (F.oH ⟨I, kk⟩) := by
 refine aD.aR (I := I) hI mI mixed W7.A.oH Tryz.func325 rfl (by kernel_rfl) (by kernel_rfl) Tryz.call325 fun args h K hs => ?_
 match args, hs with
 | [a0, a1, a2, a3], hs => exact ⟨Nat.le_of_ble_eq_true (by kernel_rfl), Eq.mp (by kernel_rfl) hs⟩
theorem Sr.fS (hI : aN Tryz.prog J I) (mI : aH I) : ∀ fuel, aD Tryz.prog J 284 (Fr.fS fuel ⟨I, kk⟩)
 | 0 => aD.no
 | fuel + 1 => by
  refine aD.aR (I := lkI [(325, F.oH ⟨I, kk⟩), (284, Fr.fS fuel ⟨I, kk⟩)]) (aV ⟨S.oH hI mI, Sr.fS hI mI fuel, trivial⟩) (aU _) mixed W7.A.fS Tryz.func284 rfl (by kernel_rfl) (by kernel_rfl) Tryz.call284 fun args h K hs => ?_
  match args, hs with
  | [a0, a1, a2, a3, a4], hs => exact ⟨Nat.le_of_ble_eq_true (by kernel_rfl), Eq.mp (by kernel_rfl) hs⟩
theorem S.fS (hI : aN Tryz.prog J I) (mI : aH I) : aD Tryz.prog J 284 (F.fS ⟨I, kk⟩) := aD.ex (Sr.fS hI mI)
theorem S.lD (hI : aN Tryz.prog J I) (mI : aH I) : aD Tryz.prog J 249 (F.lD ⟨I, kk⟩) := by
 refine aD.aR (I := lkI [(258, F.iP ⟨I, kk⟩), (284, F.fS ⟨I, kk⟩)]) (aV ⟨S.iP hI mI, S.fS hI mI, trivial⟩) (aU _) mixed W7.A.lD Tryz.func249 rfl (by kernel_rfl) (by kernel_rfl) Tryz.call249 fun args h K hs => ?_
 match args, hs with
 | [a0, a1], hs => exact ⟨Nat.le_of_ble_eq_true (by kernel_rfl), Eq.mp (by kernel_rfl) hs⟩
theorem S.oG (hI : aN Tryz.prog J I) (mI : aH I) : aD Tryz.prog J 172 (F.oG ⟨I, kk⟩) := by
 refine aD.aR (I := lkI [(93, F.uC ⟨I, kk⟩), (249, F.lD ⟨I, kk⟩)]) (aV ⟨S.uC hI mI, S.lD hI mI, trivial⟩) (aU _) mixed W7.A.oG Tryz.func172 rfl (by kernel_rfl) (by kernel_rfl) Tryz.call172 fun args h K hs => ?_
 match args, hs with
 | [a0, a1], hs => exact ⟨Nat.le_of_ble_eq_true (by kernel_rfl), Eq.mp (by kernel_rfl) hs⟩
theorem S.cmp_isNaN_int (hI : aN Tryz.prog J I) (mI : aH I) : aD Tryz.prog J 285 (F.cmp_isNaN_int ⟨I, kk⟩) := by
 refine aD.aR (I := lkI []) (aV trivial) (aU _) mixed W7.A.cmp_isNaN_int Tryz.func285 rfl (by kernel_rfl) (by kernel_rfl) Tryz.call285 fun args h K hs => ?_
 match args, hs with
 | [a0], hs => exact ⟨Nat.le_of_ble_eq_true (by kernel_rfl), Eq.mp (by kernel_rfl) hs⟩
theorem S.lM (hI : aN Tryz.prog J I) (mI : aH I) : aD Tryz.prog J 252 (F.lM ⟨I, kk⟩) := by
 refine aD.aR (I := lkI [(285, F.cmp_isNaN_int ⟨I, kk⟩)]) (aV ⟨S.cmp_isNaN_int hI mI, trivial⟩) (aU _) mixed W7.A.lM Tryz.func252 rfl (by kernel_rfl) (by kernel_rfl) Tryz.call252 fun args h K hs => ?_
 match args, hs with
 | [a0, a1], hs => exact ⟨Nat.le_of_ble_eq_true (by kernel_rfl), Eq.mp (by kernel_rfl) hs⟩
theorem S.kK (hI : aN Tryz.prog J I) (mI : aH I) : aD Tryz.prog J 286 (F.kK ⟨I, kk⟩) := by
 refine aD.aR (I := lkI []) (aV trivial) (aU _) mixed W7.A.kK Tryz.func286 rfl (by kernel_rfl) (by kernel_rfl) Tryz.call286 fun args h K hs => ?_
 match args, hs with
 | [a0], hs => exact ⟨Nat.le_of_ble_eq_true (by kernel_rfl), Eq.mp (by kernel_rfl) hs⟩
theorem S.lN (hI : aN Tryz.prog J I) (mI : aH I) : aD Tryz.prog J 253 (F.lN ⟨I, kk⟩) := by
 refine aD.aR (I := lkI [(286, F.kK ⟨I, kk⟩)]) (aV ⟨S.kK hI mI, trivial⟩) (aU _) mixed W7.A.lN Tryz.func253 rfl (by kernel_rfl) (by kernel_rfl) Tryz.call253 fun args h K hs => ?_
 match args, hs with
 | [a0, a1], hs => exact ⟨Nat.le_of_ble_eq_true (by kernel_rfl), Eq.mp (by kernel_rfl) hs⟩
theorem S.iR (hI : aN Tryz.prog J I) (mI : aH I) : aD Tryz.prog J 174 (F.iR ⟨I, kk⟩) := by
 refine aD.aR (I := lkI [(252, F.lM ⟨I, kk⟩), (253, F.lN ⟨I, kk⟩), (251, F.iI ⟨I, kk⟩)]) (aV ⟨S.lM hI mI, S.lN hI mI, S.iI hI mI, trivial⟩) (aU _) mixed W7.A.iR Tryz.func174 rfl (by kernel_rfl) (by kernel_rfl) Tryz.call174 fun args h K hs => ?_
 match args, hs with
 | [a0, a1], hs => exact ⟨Nat.le_of_ble_eq_true (by kernel_rfl), Eq.mp (by kernel_rfl) hs⟩
theorem S.kT (hI : aN Tryz.prog J I) (mI : aH I) : aD Tryz.prog J 95 (F.kT ⟨I, kk⟩) := by
 refine aD.aR (I := lkI [(173, F.nX ⟨I, kk⟩), (172, F.oG ⟨I, kk⟩)]) (aV ⟨S.nX hI mI, S.oG hI mI, trivial⟩) (aU _) mixed W7.A.kT Tryz.func95 rfl (by kernel_rfl) (by kernel_rfl) Tryz.call95 fun args h K hs => ?_
 match args, hs with
 | [a0], hs => exact ⟨Nat.le_of_ble_eq_true (by kernel_rfl), Eq.mp (by kernel_rfl) hs⟩
theorem S.oT (_ : aN Tryz.prog J I) (_ : aH I) : aD Tryz.prog J 16 (F.oT ⟨I, kk⟩) := aPk
theorem S.nY (hI : aN Tryz.prog J I) (mI : aH I) : aD Tryz.prog J 283 (F.nY ⟨I, kk⟩) := by
 refine aD.aR (I := lkI []) (aV trivial) (aU _) mixed W7.A.nY Tryz.func283 rfl (by kernel_rfl) (by kernel_rfl) Tryz.call283 fun args h K hs => ?_
 match args, hs with
 | [a0], hs => exact ⟨Nat.le_of_ble_eq_true (by kernel_rfl), Eq.mp (by kernel_rfl) hs⟩
theorem S.iX (hI : aN Tryz.prog J I) (mI : aH I) : aD Tryz.prog J 247 (F.iX ⟨I, kk⟩) := by
 refine aD.aR (I := lkI [(283, F.nY ⟨I, kk⟩), (97, F.pJ ⟨I, kk⟩)]) (aV ⟨S.nY hI mI, S.pJ hI mI, trivial⟩) (aU _) mixed W7.A.iX Tryz.func247 rfl (by kernel_rfl) (by kernel_rfl) Tryz.call247 fun args h K hs => ?_
 match args, hs with
 | [a0], hs => exact ⟨Nat.le_of_ble_eq_true (by kernel_rfl), Eq.mp (by kernel_rfl) hs⟩
theorem S.oB (hI : aN Tryz.prog J I) (mI : aH I) : aD Tryz.prog J 40 (F.oB ⟨I, kk⟩) := by
 refine aD.aR (I := lkI [(99, F.fG ⟨I, kk⟩)]) (aV ⟨S.fG hI mI, trivial⟩) (aU _) mixed W7.A.oB Tryz.func40 rfl (by kernel_rfl) (by kernel_rfl) Tryz.call40 fun args h K hs => ?_
 match args, hs with
 | [a0], hs => exact ⟨Nat.le_of_ble_eq_true (by kernel_rfl), Eq.mp (by kernel_rfl) hs⟩
theorem S.oC (hI : aN Tryz.prog J I) (mI : aH I) : aD Tryz.prog J 164 (F.oC ⟨I, kk⟩) := by
 refine aD.aR (I := lkI [(99, F.fG ⟨I, kk⟩)]) (aV ⟨S.fG hI mI, trivial⟩) (aU _) mixed W7.A.oC Tryz.func164 rfl (by kernel_rfl) (by kernel_rfl) Tryz.call164 fun args h K hs => ?_
 match args, hs with
 | [a0], hs => exact ⟨Nat.le_of_ble_eq_true (by kernel_rfl), Eq.mp (by kernel_rfl) hs⟩
theorem S.oD (hI : aN Tryz.prog J I) (mI : aH I) : aD Tryz.prog J 41 (F.oD ⟨I, kk⟩) := by
 refine aD.aR (I := lkI []) (aV trivial) (aU _) mixed W7.A.oD Tryz.func41 rfl (by kernel_rfl) (by kernel_rfl) Tryz.call41 fun args h K hs => ?_
 match args, hs with
 | [a0], hs => exact ⟨Nat.le_of_ble_eq_true (by kernel_rfl), Eq.mp (by kernel_rfl) hs⟩
theorem S.oZ (hI : aN Tryz.prog J I) (mI : aH I) : aD Tryz.prog J 260 (F.oZ ⟨I, kk⟩) := by
 refine aD.aR (I := lkI []) (aV trivial) (aU _) mixed W7.A.oZ Tryz.func260 rfl (by kernel_rfl) (by kernel_rfl) Tryz.call260 fun args h K hs => ?_
 match args, hs with
 | [a0], hs => exact ⟨Nat.le_of_ble_eq_true (by kernel_rfl), Eq.mp (by kernel_rfl) hs⟩
theorem S.iZ (hI : aN Tryz.prog J I) (mI : aH I) : aD Tryz.prog J 186 (F.iZ ⟨I, kk⟩) := by
 refine aD.aR (I := lkI [(260, F.oZ ⟨I, kk⟩), (97, F.pJ ⟨I, kk⟩)]) (aV ⟨S.oZ hI mI, S.pJ hI mI, trivial⟩) (aU _) mixed W7.A.iZ Tryz.func186 rfl (by kernel_rfl) (by kernel_rfl) Tryz.call186 fun args h K hs => ?_
 match args, hs with
 | [a0], hs => exact ⟨Nat.le_of_ble_eq_true (by kernel_rfl), Eq.mp (by kernel_rfl) hs⟩
def A.qX : An := (.s (.seq (.s (.cond (.s .l) .l)) (.seq (.s (.block (.loop 274877646784 [] (.s (.seq (.cond .l .l) (.block (.s (.s (.s (.cond (.s .l) .l)))))))))) (.s .l))))
theorem S.qX (hI : aN Tryz.prog J I) (mI : aH I) : aD Tryz.prog J 100 (F.qX ⟨I, kk⟩) := by
 refine aD.aR (I := I) hI mI mixed A.qX Tryz.func100 rfl (by kernel_rfl) (by kernel_rfl) Tryz.call100 fun args h K hs => ?_
 match args, hs with
 | [a0, a1, a2], hs => exact ⟨Nat.le_of_ble_eq_true (by kernel_rfl), Eq.mp (by kernel_rfl) hs⟩
def A.qW : An := (.s (.seq (.s (.cond (.s .l) .l)) (.seq (.s (.block (.loop 274877646784 [] (.s (.seq (.cond .l .l) (.block (.s (.s (.s (.cond (.s .l) .l)))))))))) (.s .l))))
theorem S.qW (hI : aN Tryz.prog J I) (mI : aH I) : aD Tryz.prog J 102 (F.qW ⟨I, kk⟩) := by
 refine aD.aR (I := I) hI mI mixed A.qW Tryz.func102 rfl (by kernel_rfl) (by kernel_rfl) Tryz.call102 fun args h K hs => ?_
 match args, hs with
 | [a0, a1, a2], hs => exact ⟨Nat.le_of_ble_eq_true (by kernel_rfl), Eq.mp (by kernel_rfl) hs⟩
def A.rF : An := (.s (.seq (.s (.cond (.s .l) .l)) (.seq (.s (.block (.loop 67100720 [13] (.s (.seq (.cond .l .l) (.seq (.block (.s (.seq (.draw #[0, 0, 3, 7, 0, 0, 48, 112, 255] (.qs [0, 1, 2, 3, 4, 5, 6, 7, 8] .done)) (.cond (.s .l) .l)))) .l)))))) (.s .l))))
theorem S.rF (hI : aN Tryz.prog J I) (mI : aH I) : aD Tryz.prog J 104 (F.rF ⟨I, kk⟩) := by
 refine aD.aR (I := lkI []) (aV trivial) (aU _) mixed A.rF Tryz.func104 rfl (by kernel_rfl) (by kernel_rfl) Tryz.call104 fun args h K hs => ?_
 match args, hs with
 | [a0, a1], hs => exact ⟨Nat.le_of_ble_eq_true (by kernel_rfl), Eq.mp (by kernel_rfl) hs⟩
theorem S.hU (hI : aN Tryz.prog J I) (mI : aH I) : aD Tryz.prog J 185 (F.hU ⟨I, kk⟩) := by
 refine aD.aR (I := lkI []) (aV trivial) (aU _) mixed W7.A.hU Tryz.func185 rfl (by kernel_rfl) (by kernel_rfl) Tryz.call185 fun args h K hs => ?_
 match args, hs with
 | [a0, a1], hs => exact ⟨Nat.le_of_ble_eq_true (by kernel_rfl), Eq.mp (by kernel_rfl) hs⟩
theorem S.mV (hI : aN Tryz.prog J I) (mI : aH I) : aD Tryz.prog J 261 (F.mV ⟨I, kk⟩) := by
 refine aD.aR (I := I) hI mI mixed W7.A.mV Tryz.func261 rfl (by kernel_rfl) (by kernel_rfl) Tryz.call261 fun args h K hs => ?_
 match args, hs with
 | [a0, a1], hs => exact ⟨Nat.le_of_ble_eq_true (by kernel_rfl), Eq.mp (by kernel_rfl) hs⟩
theorem S.iW (hI : aN Tryz.prog J I) (mI : aH I) : aD Tryz.prog J 187 (F.iW ⟨I, kk⟩) := by
 refine aD.aR (I := lkI [(261, F.mV ⟨I, kk⟩)]) (aV ⟨S.mV hI mI, trivial⟩) (aU _) mixed W7.A.iW Tryz.func187 rfl (by kernel_rfl) (by kernel_rfl) Tryz.call187 fun args h K hs => ?_
 match args, hs with
 | [a0, a1], hs => exact ⟨Nat.le_of_ble_eq_true (by kernel_rfl), Eq.mp (by kernel_rfl) hs⟩
theorem S.hZ (hI : aN Tryz.prog J I) (mI : aH I) : aD Tryz.prog J 259 (F.hZ ⟨I, kk⟩) := by
 refine aD.aR (I := lkI [(35, F.dK ⟨I, kk⟩)]) (aV ⟨S.dK hI mI, trivial⟩) (aU _) mixed W7.A.hZ Tryz.func259 rfl (by kernel_rfl) (by kernel_rfl) Tryz.call259 fun args h K hs => ?_
 match args, hs with
 | [a0, a1, a2], hs => exact ⟨Nat.le_of_ble_eq_true (by kernel_rfl), Eq.mp (by kernel_rfl) hs⟩
theorem S.mZ (hI : aN Tryz.prog J I) (mI : aH I) : aD Tryz.prog J 181 (F.mZ ⟨I, kk⟩) := by
 refine aD.aR (I := lkI [(247, F.iX ⟨I, kk⟩), (185, F.hU ⟨I, kk⟩), (187, F.iW ⟨I, kk⟩)]) (aV ⟨S.iX hI mI, S.hU hI mI, S.iW hI mI, trivial⟩) (aU _) mixed W7.A.mZ Tryz.func181 rfl (by kernel_rfl) (by kernel_rfl) Tryz.call181 fun args h K hs => ?_
 match args, hs with
 | [a0, a1], hs => exact ⟨Nat.le_of_ble_eq_true (by kernel_rfl), Eq.mp (by kernel_rfl) hs⟩
theorem S.oF (hI : aN Tryz.prog J I) (mI : aH I) : aD Tryz.prog J 182 (F.oF ⟨I, kk⟩) := by
 refine aD.aR (I := lkI []) (aV trivial) (aU _) mixed W7.A.oF Tryz.func182 rfl (by kernel_rfl) (by kernel_rfl) Tryz.call182 fun args h K hs => ?_
 match args, hs with
 | [a0, a1], hs => exact ⟨Nat.le_of_ble_eq_true (by kernel_rfl), Eq.mp (by kernel_rfl) hs⟩
theorem S.pI (hI : aN Tryz.prog J I) (mI : aH I) : aD Tryz.prog J 300 (F.pI ⟨I, kk⟩) := by
 refine aD.aR (I := lkI []) (aV trivial) (aU _) mixed W7.A.pI Tryz.func300 rfl (by kernel_rfl) (by kernel_rfl) Tryz.call300 fun args h K hs => ?_
 match args, hs with
 | [a0, a1], hs => exact ⟨Nat.le_of_ble_eq_true (by kernel_rfl), Eq.mp (by kernel_rfl) hs⟩
theorem S.pH (hI : aN Tryz.prog J I) (mI : aH I) : aD Tryz.prog J 262 (F.pH ⟨I, kk⟩) := by
 refine aD.aR (I := lkI [(300, F.pI ⟨I, kk⟩)]) (aV ⟨S.pI hI mI, trivial⟩) (aU _) mixed W7.A.pH Tryz.func262 rfl (by kernel_rfl) (by kernel_rfl) Tryz.call262 fun args h K hs => ?_
 match args, hs with
 | [a0, a1], hs => exact ⟨Nat.le_of_ble_eq_true (by kernel_rfl), Eq.mp (by kernel_rfl) hs⟩
theorem S.oJ (hI : aN Tryz.prog J I) (mI : aH I) : aD Tryz.prog J 188 (F.oJ ⟨I, kk⟩) := by
 refine aD.aR (I := lkI [(186, F.iZ ⟨I, kk⟩), (262, F.pH ⟨I, kk⟩), (248, F.eQ ⟨I, kk⟩), (167, F.iY ⟨I, kk⟩)]) (aV ⟨S.iZ hI mI, S.pH hI mI, S.eQ hI mI, S.iY hI mI, trivial⟩) (aU _) mixed W7.A.oJ Tryz.func188 rfl (by kernel_rfl) (by kernel_rfl) Tryz.call188 fun args h K hs => ?_
 match args, hs with
 | [a0], hs => exact ⟨Nat.le_of_ble_eq_true (by kernel_rfl), Eq.mp (by kernel_rfl) hs⟩
theorem S.mY (hI : aN Tryz.prog J I) (mI : aH I) : aD Tryz.prog J 183 (F.mY ⟨I, kk⟩) := by
 refine aD.aR (I := lkI [(184, F.fH ⟨I, kk⟩)]) (aV ⟨S.fH hI mI, trivial⟩) (aU _) mixed W7.A.mY Tryz.func183 rfl (by kernel_rfl) (by kernel_rfl) Tryz.call183 fun args h K hs => ?_
 match args, hs with
 | [a0, a1, a2], hs => exact ⟨Nat.le_of_ble_eq_true (by kernel_rfl), Eq.mp (by kernel_rfl) hs⟩
theorem S.mX (hI : aN Tryz.prog J I) (mI : aH I) : aD Tryz.prog J 101 (F.mX ⟨I, kk⟩) := by
 refine aD.aR (I := lkI [(181, F.mZ ⟨I, kk⟩), (41, F.oD ⟨I, kk⟩), (40, F.oB ⟨I, kk⟩), (182, F.oF ⟨I, kk⟩), (164, F.oC ⟨I, kk⟩), (186, F.iZ ⟨I, kk⟩), (185, F.hU ⟨I, kk⟩), (187, F.iW ⟨I, kk⟩), (188, F.oJ ⟨I, kk⟩)]) (aV ⟨S.mZ hI mI, S.oD hI mI, S.oB hI mI, S.oF hI mI, S.oC hI mI, S.iZ hI mI, S.hU hI mI, S.iW hI mI, S.oJ hI mI, trivial⟩) (aU _) mixed W7.A.mX Tryz.func101 rfl (by kernel_rfl) (by kernel_rfl) Tryz.call101 fun args h K hs => ?_
 match args, hs with
 | [a0, a1], hs => exact ⟨Nat.le_of_ble_eq_true (by kernel_rfl), Eq.mp (by kernel_rfl) hs⟩
def A.rI : An := (.s (.seq (.s (.cond (.s .l) .l)) (.seq (.draw #[0, 1, 3, 7, 0, 16, 48, 112, 255, 511, 1023, 2047, 4095, 8191, 1023, 17407, 50175, 115711, 262143, 524287, 1048575, 2097151, 4194303, 8388607, 16777215, 33554431, 2097151, 69206015, 203423743, 471859199, 1073741823, 2147483647, 4294967295, 8589934591] (.qs [0, 1, 2, 3, 4, 5, 6, 7] (.c 8 [] (.qs [9, 10, 11, 12, 13, 14, 15, 16, 17] (.c 18 [] (.qs [19, 20, 21, 22, 23, 24, 26, 27, 28, 29] (.c 25 [29] (.c 30 [] (.c 31 [] (.q 32 (.q 33 .done))))))))))) .l)))
theorem S.rI (hI : aN Tryz.prog J I) (mI : aH I) : aD Tryz.prog J 42 (F.rI ⟨I, kk⟩) := by
 refine aD.aR (I := lkI [(100, F.qX ⟨I, kk⟩), (102, F.qW ⟨I, kk⟩), (95, F.kT ⟨I, kk⟩), (104, F.rF ⟨I, kk⟩)]) (aV ⟨S.qX hI mI, S.qW hI mI, S.kT hI mI, S.rF hI mI, trivial⟩) (aU _) mixed A.rI Tryz.func42 rfl (by kernel_rfl) (by kernel_rfl) Tryz.call42 fun args h K hs => ?_
 match args, hs with
 | [a0, a1], hs => exact ⟨Nat.le_of_ble_eq_true (by kernel_rfl), Eq.mp (by kernel_rfl) hs⟩
end Go.Abs
namespace Go.Abs
open Go Go.Proofs
def Z0 : FE := ⟨fun _ => none, kk⟩
def Z1 : FE := ⟨lkI [(239, F.eM Z0)], kk⟩
theorem qH : aN Tryz.prog J (fun _ => none) := fun _ _ h => by cases h
theorem qG : aH (fun _ => none) := fun _ _ h => by cases h
theorem aOi : aN Tryz.prog J Z1.I := aV ⟨S.eM qH qG, trivial⟩
theorem aG9 : aH Z1.I := aU _
end Go.Abs
namespace Go.Abs
open Go Go.Proofs
def ZA : FE := ⟨lkI [(183, F.mY Z0), (259, F.hZ Z0)], kk⟩
def I15 : FuncId → Option Spec := lkI [(271, F.gI Z0), (183, F.mY Z0), (259, F.hZ Z0), (150, F.nZ Z1), (239, F.eM Z0), (153, F.jI Z0), (221, F.fB Z0), (174, F.iR Z0), (101, F.mX ZA)]
def E15 : FE := ⟨I15, kk⟩
theorem aOj : aN Tryz.prog J ZA.I := aV ⟨S.mY qH qG, S.hZ qH qG, trivial⟩
theorem aHa : aH ZA.I := aU _
theorem aOb : aN Tryz.prog J I15 :=
 aV ⟨S.gI qH qG, S.mY qH qG, S.hZ qH qG, S.nZ aOi aG9, S.eM qH qG, S.jI qH qG, S.fB qH qG, S.iR qH qG, S.mX aOj aHa, trivial⟩
theorem aG2 : aH I15 := aU _
theorem aXi : VlE E15 := ⟨⟨aG2, ⟨Z1, rfl, aG9, Z0, rfl⟩, ⟨Z0, rfl⟩⟩, ⟨Z0, rfl⟩, ⟨Z0, rfl⟩, ⟨Z0, rfl⟩, ⟨Z0, rfl⟩⟩
theorem aRq : EqE E15 := ⟨ZA, Z0, rfl, aHa, rfl, rfl⟩
end Go.Abs

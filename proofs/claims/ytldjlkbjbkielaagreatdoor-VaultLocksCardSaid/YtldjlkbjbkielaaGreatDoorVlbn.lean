/- What is closed in the laws below: estafettelaw8.Begun, estafettelaw12.Begun: the kernel runs them. -/
import Derived.Test.YtldjlkbjbkielaaGreatDoorVlaq
import Derived.Test.YtldjlkbjbkielaaGreatDoorVlbg
import Derived.Test.YtldjlkbjbkielaaGreatDoorVlbh
import Derived.Test.YtldjlkbjbkielaaGreatDoorVlao
import Derived.Test.YtldjlkbjbkielaaGreatDoorVlbl
import Derived.Test.YtldjlkbjbkielaaGreatDoorVlar
import Derived.Test.YtldjlkbjbkielaaGreatDoorProg
import Derived.Test.YtldjlkbjbkielaaGreatDoorVlbd
set_option linter.unusedSimpArgs false
set_option linter.unusedVariables false
namespace Go.Abs
open Go Go.Proofs
theorem mixed0 : Tryz.prog.follows .mixedOrders = true := by kernel_rfl
def PU : List (Nat × (List V → AHeap → Ans)) := [(321, stillU fmtB), (322, stillU trimB), (287, cloneU), (97, sortedU [324, 299, 180]), (93, colU [171, 250, 201])]
theorem nI : SoundI Tryz.prog J8 (fun _ => none) := fun _ _ h => by cases h
theorem nM : MonoI (fun _ => none) := fun _ _ h => by cases h
theorem PU_sound : ∀ f g, lkL PU f = some g → SoundF Tryz.prog J8 f (anySpecU g) := by
 refine lkL_ok (p := fun f g => SoundF Tryz.prog J8 f (anySpecU g)) fun x hx => ?_
 simp only [PU, List.mem_cons, List.not_mem_nil, or_false] at hx
 rcases hx with rfl | rfl | rfl | rfl | rfl
 · have e : Tryz.lays173_ren.f 173 = 321 := by kernel_rfl
   have h := fmtB_sound (J := J8) J8_free Tryz.lays173 (by rw [e]; exact Tryz.call321)
   rw [e] at h
   exact stillU_sound h fmtB_still
 · have e : Tryz.lays160_ren.f 160 = 322 := by kernel_rfl
   have h := trimB_sound (J := J8) J8_free Tryz.lays160 (by kernel_rfl) (by rw [e]; exact Tryz.call322)
   rw [e] at h
   exact stillU_sound h trimB_still
 · exact cloneU_sound (S.maps_clone nI nM)
 · refine sortedU_sound (fun g hg => ?_) (S.slices_Sorted_string nI nM)
   simp only [List.mem_cons, List.not_mem_nil, or_false] at hg
   rcases hg with rfl | rfl | rfl
   · exact .inl rfl
   · exact .inr (.inl rfl)
   · exact .inr (.inr rfl)
 · refine colU_sound (fun g hg => ?_) (S.slices_Collect_api_Id nI nM)
   simp only [List.mem_cons, List.not_mem_nil, or_false] at hg
   rcases hg with rfl | rfl | rfl
   · exact .inl rfl
   · exact .inr (.inl rfl)
   · exact .inr (.inr rfl)
set_option maxRecDepth 100000
theorem begun1 : SoundF Tryz.prog J8 217 TrueF := closedU mixed0 PU_sound W7.TB_ok 40 217 (by kernel_rfl)
def P1 := (217, trueU) :: PU
theorem P1_sound : ∀ f g, lkL P1 f = some g → SoundF Tryz.prog J8 f (anySpecU g) := moreU PU_sound begun1
theorem begun8 : SoundF Tryz.prog J8 70 TrueF := closedU mixed0 P1_sound W7.TB_ok 40 70 (by kernel_rfl)
theorem begun7 : SoundF Tryz.prog J8 218 TrueF := closedU mixed0 P1_sound W7.TB_ok 40 218 (by kernel_rfl)
def P7 := (218, trueU) :: P1
theorem P7_sound : ∀ f g, lkL P7 f = some g → SoundF Tryz.prog J8 f (anySpecU g) := moreU P1_sound begun7
theorem begun12 : SoundF Tryz.prog J8 71 TrueF := closedU mixed0 P7_sound W7.TB_ok 40 71 (by kernel_rfl)
end Go.Abs
set_option maxRecDepth 100000
namespace Go.Abs
open Go Go.Proofs
def PV : List (Nat × (List V → AHeap → Ans)) := (70, trueU) :: (71, trueU) :: P7
theorem PV_sound : ∀ f g, lkL PV f = some g → SoundF Tryz.prog J8 f (anySpecU g) := moreU (moreU P7_sound begun12) begun8
theorem begun14v : SoundF Tryz.prog J8 16 TrueF := closedU mixed0 PV_sound W7.TB_ok 60 16 (by kernel_rfl)
end Go.Abs
set_option maxRecDepth 20000
namespace Go.Abs
open Go Go.Proofs
abbrev J : World → Prop := J8
variable {I : FuncId → Option Spec}
theorem mixed : Tryz.prog.follows .mixedOrders = true := by kernel_rfl
theorem S.lock_New (hI : SoundI Tryz.prog J I) (mI : MonoI I) : SoundF Tryz.prog J 72 (F.lock_New ⟨I, kk⟩) := by
 refine SoundF.of_walk (I := lkI []) (lkI_sound trivial) (lkI_mono _) mixed W7.A.lock_New Tryz.func72 rfl (by kernel_rfl) (by kernel_rfl) Tryz.call72 fun args h K hs => ?_
 match args, hs with
 | [], hs => exact ⟨Nat.le_of_ble_eq_true (by kernel_rfl), Eq.mp (by kernel_rfl) hs⟩
theorem S.name_New (hI : SoundI Tryz.prog J I) (mI : MonoI I) : SoundF Tryz.prog J 73 (F.name_New ⟨I, kk⟩) := by
 refine SoundF.of_walk (I := lkI []) (lkI_sound trivial) (lkI_mono _) mixed W7.A.name_New Tryz.func73 rfl (by kernel_rfl) (by kernel_rfl) Tryz.call73 fun args h K hs => ?_
 match args, hs with
 | [a0], hs => exact ⟨Nat.le_of_ble_eq_true (by kernel_rfl), Eq.mp (by kernel_rfl) hs⟩
theorem S.vault_New (hI : SoundI Tryz.prog J I) (mI : MonoI I) : SoundF Tryz.prog J 17 (F.vault_New ⟨I, kk⟩) := by
 refine SoundF.of_walk (I := lkI [(72, F.lock_New ⟨I, kk⟩), (73, F.name_New ⟨I, kk⟩)]) (lkI_sound ⟨S.lock_New hI mI, S.name_New hI mI, trivial⟩) (lkI_mono _) mixed W7.A.vault_New Tryz.func17 rfl (by kernel_rfl) (by kernel_rfl) Tryz.call17 fun args h K hs => ?_
 match args, hs with
 | [], hs => exact ⟨Nat.le_of_ble_eq_true (by kernel_rfl), Eq.mp (by kernel_rfl) hs⟩
theorem S.name_Ids_Has (hI : SoundI Tryz.prog J I) (mI : MonoI I) : SoundF Tryz.prog J 80 (F.name_Ids_Has ⟨I, kk⟩) := by
 refine SoundF.of_walk (I := lkI []) (lkI_sound trivial) (lkI_mono _) mixed W7.A.name_Ids_Has Tryz.func80 rfl (by kernel_rfl) (by kernel_rfl) Tryz.call80 fun args h K hs => ?_
 match args, hs with
 | [a0, a1], hs => exact ⟨Nat.le_of_ble_eq_true (by kernel_rfl), Eq.mp (by kernel_rfl) hs⟩
theorem S.slices_IndexFunc_Sapi_Op_api_Op (hI : SoundI Tryz.prog J I) (mI : MonoI I) : SoundF Tryz.prog J 237 (F.slices_IndexFunc_Sapi_Op_api_Op ⟨I, kk⟩) := by
 refine SoundF.of_walk (I := I) hI mI mixed W7.A.slices_IndexFunc_Sapi_Op_api_Op Tryz.func237 rfl (by kernel_rfl) (by kernel_rfl) Tryz.call237 fun args h K hs => ?_
 match args, hs with
 | [a0, a1], hs => exact ⟨Nat.le_of_ble_eq_true (by kernel_rfl), Eq.mp (by kernel_rfl) hs⟩
theorem S.slices_ContainsFunc_Sapi_Op_api_Op (hI : SoundI Tryz.prog J I) (mI : MonoI I) : SoundF Tryz.prog J 149 (F.slices_ContainsFunc_Sapi_Op_api_Op ⟨I, kk⟩) := by
 refine SoundF.of_walk (I := lkI [(237, F.slices_IndexFunc_Sapi_Op_api_Op ⟨I, kk⟩)]) (lkI_sound ⟨S.slices_IndexFunc_Sapi_Op_api_Op hI mI, trivial⟩) (lkI_mono _) mixed W7.A.slices_ContainsFunc_Sapi_Op_api_Op Tryz.func149 rfl (by kernel_rfl) (by kernel_rfl) Tryz.call149 fun args h K hs => ?_
 match args, hs with
 | [a0, a1], hs => exact ⟨Nat.le_of_ble_eq_true (by kernel_rfl), Eq.mp (by kernel_rfl) hs⟩
theorem S.op_names (hI : SoundI Tryz.prog J I) (mI : MonoI I) : SoundF Tryz.prog J 238 (F.op_names ⟨I, kk⟩) := by
 refine SoundF.of_walk (I := lkI []) (lkI_sound trivial) (lkI_mono _) mixed W7.A.op_names Tryz.func238 rfl (by kernel_rfl) (by kernel_rfl) Tryz.call238 fun args h K hs => ?_
 match args, hs with
 | [a0], hs => exact ⟨Nat.le_of_ble_eq_true (by kernel_rfl), Eq.mp (by kernel_rfl) hs⟩
theorem S.strings_indexFunc (hI : SoundI Tryz.prog J I) (mI : MonoI I) : SoundF Tryz.prog J 320 (F.strings_indexFunc ⟨I, kk⟩) := by
 refine SoundF.of_walk (I := I) hI mI mixed W7.A.strings_indexFunc Tryz.func320 rfl (by kernel_rfl) (by kernel_rfl) Tryz.call320 fun args h K hs => ?_
 match args, hs with
 | [a0, a1, a2], hs => exact ⟨Nat.le_of_ble_eq_true (by kernel_rfl), Eq.mp (by kernel_rfl) hs⟩
theorem S.strings_IndexFunc (hI : SoundI Tryz.prog J I) (mI : MonoI I) : SoundF Tryz.prog J 279 (F.strings_IndexFunc ⟨I, kk⟩) := by
 refine SoundF.of_walk (I := lkI [(320, F.strings_indexFunc ⟨I, kk⟩)]) (lkI_sound ⟨S.strings_indexFunc hI mI, trivial⟩) (lkI_mono _) mixed W7.A.strings_IndexFunc Tryz.func279 rfl (by kernel_rfl) (by kernel_rfl) Tryz.call279 fun args h K hs => ?_
 match args, hs with
 | [a0, a1], hs => exact ⟨Nat.le_of_ble_eq_true (by kernel_rfl), Eq.mp (by kernel_rfl) hs⟩
theorem S.strings_ContainsFunc (hI : SoundI Tryz.prog J I) (mI : MonoI I) : SoundF Tryz.prog J 240 (F.strings_ContainsFunc ⟨I, kk⟩) := by
 refine SoundF.of_walk (I := lkI [(279, F.strings_IndexFunc ⟨I, kk⟩)]) (lkI_sound ⟨S.strings_IndexFunc hI mI, trivial⟩) (lkI_mono _) mixed W7.A.strings_ContainsFunc Tryz.func240 rfl (by kernel_rfl) (by kernel_rfl) Tryz.call240 fun args h K hs => ?_
 match args, hs with
 | [a0, a1], hs => exact ⟨Nat.le_of_ble_eq_true (by kernel_rfl), Eq.mp (by kernel_rfl) hs⟩
theorem S.op_makes (hI : SoundI Tryz.prog J I) (mI : MonoI I) : SoundF Tryz.prog J 241 (F.op_makes ⟨I, kk⟩) := by
 refine SoundF.of_walk (I := lkI []) (lkI_sound trivial) (lkI_mono _) mixed W7.A.op_makes Tryz.func241 rfl (by kernel_rfl) (by kernel_rfl) Tryz.call241 fun args h K hs => ?_
 match args, hs with
 | [a0], hs => exact ⟨Nat.le_of_ble_eq_true (by kernel_rfl), Eq.mp (by kernel_rfl) hs⟩
theorem S.op_May_1 (hI : SoundI Tryz.prog J I) (mI : MonoI I) : SoundF Tryz.prog J 239 (F.op_May_1 ⟨I, kk⟩) := by
 refine SoundF.of_walk (I := lkI []) (lkI_sound trivial) (lkI_mono _) mixed W7.A.op_May_1 Tryz.func239 rfl (by kernel_rfl) (by kernel_rfl) Tryz.call239 fun args h K hs => ?_
 match args, hs with
 | [a0], hs => exact ⟨Nat.le_of_ble_eq_true (by kernel_rfl), Eq.mp (by kernel_rfl) hs⟩
theorem S.op_May (hI : SoundI Tryz.prog J I) (mI : MonoI I) : SoundF Tryz.prog J 151 (F.op_May ⟨I, kk⟩) := by
 refine SoundF.of_walk (I := lkI [(238, F.op_names ⟨I, kk⟩), (240, F.strings_ContainsFunc ⟨I, kk⟩), (241, F.op_makes ⟨I, kk⟩)]) (lkI_sound ⟨S.op_names hI mI, S.strings_ContainsFunc hI mI, S.op_makes hI mI, trivial⟩) (lkI_mono _) mixed W7.A.op_May Tryz.func151 rfl (by kernel_rfl) (by kernel_rfl) Tryz.call151 fun args h K hs => ?_
 match args, hs with
 | [a0], hs => exact ⟨Nat.le_of_ble_eq_true (by kernel_rfl), Eq.mp (by kernel_rfl) hs⟩
theorem S.op_All_1 (hI : SoundI Tryz.prog J I) (mI : MonoI I) : SoundF Tryz.prog J 150 (F.op_All_1 ⟨I, kk⟩) := by
 refine SoundF.of_walk (I := lkI [(151, F.op_May ⟨I, kk⟩)]) (lkI_sound ⟨S.op_May hI mI, trivial⟩) (lkI_mono _) mixed W7.A.op_All_1 Tryz.func150 rfl (by kernel_rfl) (by kernel_rfl) Tryz.call150 fun args h K hs => ?_
 match args, hs with
 | [a0], hs => exact ⟨Nat.le_of_ble_eq_true (by kernel_rfl), Eq.mp (by kernel_rfl) hs⟩
theorem S.op_All (hI : SoundI Tryz.prog J I) (mI : MonoI I) : SoundF Tryz.prog J 81 (F.op_All ⟨I, kk⟩) := by
 refine SoundF.of_walk (I := lkI [(149, F.slices_ContainsFunc_Sapi_Op_api_Op ⟨I, kk⟩)]) (lkI_sound ⟨S.slices_ContainsFunc_Sapi_Op_api_Op hI mI, trivial⟩) (lkI_mono _) mixed W7.A.op_All Tryz.func81 rfl (by kernel_rfl) (by kernel_rfl) Tryz.call81 fun args h K hs => ?_
 match args, hs with
 | [a0], hs => exact ⟨Nat.le_of_ble_eq_true (by kernel_rfl), Eq.mp (by kernel_rfl) hs⟩
theorem S.slices_Clone_Sstring_string (hI : SoundI Tryz.prog J I) (mI : MonoI I) : SoundF Tryz.prog J 82 (F.slices_Clone_Sstring_string ⟨I, kk⟩) := by
 refine SoundF.of_walk (I := lkI []) (lkI_sound trivial) (lkI_mono _) mixed W7.A.slices_Clone_Sstring_string Tryz.func82 rfl (by kernel_rfl) (by kernel_rfl) Tryz.call82 fun args h K hs => ?_
 match args, hs with
 | [a0], hs => exact ⟨Nat.le_of_ble_eq_true (by kernel_rfl), Eq.mp (by kernel_rfl) hs⟩
theorem S.op_Kind (hI : SoundI Tryz.prog J I) (mI : MonoI I) : SoundF Tryz.prog J 155 (F.op_Kind ⟨I, kk⟩) := by
 refine SoundF.of_walk (I := lkI []) (lkI_sound trivial) (lkI_mono _) mixed W7.A.op_Kind Tryz.func155 rfl (by kernel_rfl) (by kernel_rfl) Tryz.call155 fun args h K hs => ?_
 match args, hs with
 | [a0], hs => exact ⟨Nat.le_of_ble_eq_true (by kernel_rfl), Eq.mp (by kernel_rfl) hs⟩
theorem S.math_bits_Len32 (hI : SoundI Tryz.prog J I) (mI : MonoI I) : SoundF Tryz.prog J 297 (F.math_bits_Len32 ⟨I, kk⟩) := by
 refine SoundF.of_walk (I := lkI []) (lkI_sound trivial) (lkI_mono _) mixed W7.A.math_bits_Len32 Tryz.func297 rfl (by kernel_rfl) (by kernel_rfl) Tryz.call297 fun args h K hs => ?_
 match args, hs with
 | [a0], hs => exact ⟨Nat.le_of_ble_eq_true (by kernel_rfl), Eq.mp (by kernel_rfl) hs⟩
theorem S.math_bits_Len64 (hI : SoundI Tryz.prog J I) (mI : MonoI I) : SoundF Tryz.prog J 298 (F.math_bits_Len64 ⟨I, kk⟩) := by
 refine SoundF.of_walk (I := lkI []) (lkI_sound trivial) (lkI_mono _) mixed W7.A.math_bits_Len64 Tryz.func298 rfl (by kernel_rfl) (by kernel_rfl) Tryz.call298 fun args h K hs => ?_
 match args, hs with
 | [a0], hs => exact ⟨Nat.le_of_ble_eq_true (by kernel_rfl), Eq.mp (by kernel_rfl) hs⟩
theorem S.math_bits_Len (hI : SoundI Tryz.prog J I) (mI : MonoI I) : SoundF Tryz.prog J 258 (F.math_bits_Len ⟨I, kk⟩) := by
 refine SoundF.of_walk (I := lkI [(297, F.math_bits_Len32 ⟨I, kk⟩), (298, F.math_bits_Len64 ⟨I, kk⟩)]) (lkI_sound ⟨S.math_bits_Len32 hI mI, S.math_bits_Len64 hI mI, trivial⟩) (lkI_mono _) mixed W7.A.math_bits_Len Tryz.func258 rfl (by kernel_rfl) (by kernel_rfl) Tryz.call258 fun args h K hs => ?_
 match args, hs with
 | [a0], hs => exact ⟨Nat.le_of_ble_eq_true (by kernel_rfl), Eq.mp (by kernel_rfl) hs⟩
theorem S.slices_insertionSortCmpFunc_lock_Key (hI : SoundI Tryz.prog J I) (mI : MonoI I) : SoundF Tryz.prog J 311 (F.slices_insertionSortCmpFunc_lock_Key ⟨I, kk⟩) := by
 refine SoundF.of_walk (I := I) hI mI mixed W7.A.slices_insertionSortCmpFunc_lock_Key Tryz.func311 rfl (by kernel_rfl) (by kernel_rfl) Tryz.call311 fun args h K hs => ?_
 match args, hs with
 | [a0, a1, a2, a3], hs => exact ⟨Nat.le_of_ble_eq_true (by kernel_rfl), Eq.mp (by kernel_rfl) hs⟩
theorem Sr.slices_pdqsortCmpFunc_lock_Key (hI : SoundI Tryz.prog J I) (mI : MonoI I) : ∀ fuel, SoundF Tryz.prog J 274 (Fr.slices_pdqsortCmpFunc_lock_Key fuel ⟨I, kk⟩)
 | 0 => SoundF.no
 | fuel + 1 => by
  refine SoundF.of_walk (I := lkI [(311, F.slices_insertionSortCmpFunc_lock_Key ⟨I, kk⟩), (274, Fr.slices_pdqsortCmpFunc_lock_Key fuel ⟨I, kk⟩)]) (lkI_sound ⟨S.slices_insertionSortCmpFunc_lock_Key hI mI, Sr.slices_pdqsortCmpFunc_lock_Key hI mI fuel, trivial⟩) (lkI_mono _) mixed W7.A.slices_pdqsortCmpFunc_lock_Key Tryz.func274 rfl (by kernel_rfl) (by kernel_rfl) Tryz.call274 fun args h K hs => ?_
  match args, hs with
  | [a0, a1, a2, a3, a4], hs => exact ⟨Nat.le_of_ble_eq_true (by kernel_rfl), Eq.mp (by kernel_rfl) hs⟩
theorem S.slices_pdqsortCmpFunc_lock_Key (hI : SoundI Tryz.prog J I) (mI : MonoI I) : SoundF Tryz.prog J 274 (F.slices_pdqsortCmpFunc_lock_Key ⟨I, kk⟩) := SoundF.ex (Sr.slices_pdqsortCmpFunc_lock_Key hI mI)
theorem S.slices_SortFunc_Slock_Key_lock_Key (hI : SoundI Tryz.prog J I) (mI : MonoI I) : SoundF Tryz.prog J 220 (F.slices_SortFunc_Slock_Key_lock_Key ⟨I, kk⟩) := by
 refine SoundF.of_walk (I := lkI [(258, F.math_bits_Len ⟨I, kk⟩), (274, F.slices_pdqsortCmpFunc_lock_Key ⟨I, kk⟩)]) (lkI_sound ⟨S.math_bits_Len hI mI, S.slices_pdqsortCmpFunc_lock_Key hI mI, trivial⟩) (lkI_mono _) mixed W7.A.slices_SortFunc_Slock_Key_lock_Key Tryz.func220 rfl (by kernel_rfl) (by kernel_rfl) Tryz.call220 fun args h K hs => ?_
 match args, hs with
 | [a0, a1], hs => exact ⟨Nat.le_of_ble_eq_true (by kernel_rfl), Eq.mp (by kernel_rfl) hs⟩
theorem S.slices_Compact_Slock_Key_lock_Key (hI : SoundI Tryz.prog J I) (mI : MonoI I) : SoundF Tryz.prog J 222 (F.slices_Compact_Slock_Key_lock_Key ⟨I, kk⟩) := by
 refine SoundF.of_walk (I := lkI []) (lkI_sound trivial) (lkI_mono _) mixed W7.A.slices_Compact_Slock_Key_lock_Key Tryz.func222 rfl (by kernel_rfl) (by kernel_rfl) Tryz.call222 fun args h K hs => ?_
 match args, hs with
 | [a0], hs => exact ⟨Nat.le_of_ble_eq_true (by kernel_rfl), Eq.mp (by kernel_rfl) hs⟩
theorem S.cmp_isNaN_string (hI : SoundI Tryz.prog J I) (mI : MonoI I) : SoundF Tryz.prog J 319 (F.cmp_isNaN_string ⟨I, kk⟩) := by
 refine SoundF.of_walk (I := lkI []) (lkI_sound trivial) (lkI_mono _) mixed W7.A.cmp_isNaN_string Tryz.func319 rfl (by kernel_rfl) (by kernel_rfl) Tryz.call319 fun args h K hs => ?_
 match args, hs with
 | [a0], hs => exact ⟨Nat.le_of_ble_eq_true (by kernel_rfl), Eq.mp (by kernel_rfl) hs⟩
theorem S.cmp_Compare_string (hI : SoundI Tryz.prog J I) (mI : MonoI I) : SoundF Tryz.prog J 275 (F.cmp_Compare_string ⟨I, kk⟩) := by
 refine SoundF.of_walk (I := lkI [(319, F.cmp_isNaN_string ⟨I, kk⟩)]) (lkI_sound ⟨S.cmp_isNaN_string hI mI, trivial⟩) (lkI_mono _) mixed W7.A.cmp_Compare_string Tryz.func275 rfl (by kernel_rfl) (by kernel_rfl) Tryz.call275 fun args h K hs => ?_
 match args, hs with
 | [a0, a1], hs => exact ⟨Nat.le_of_ble_eq_true (by kernel_rfl), Eq.mp (by kernel_rfl) hs⟩
theorem S.cmp_Or_int (hI : SoundI Tryz.prog J I) (mI : MonoI I) : SoundF Tryz.prog J 251 (F.cmp_Or_int ⟨I, kk⟩) := by
 refine SoundF.of_walk (I := lkI []) (lkI_sound trivial) (lkI_mono _) mixed W7.A.cmp_Or_int Tryz.func251 rfl (by kernel_rfl) (by kernel_rfl) Tryz.call251 fun args h K hs => ?_
 match args, hs with
 | [a0], hs => exact ⟨Nat.le_of_ble_eq_true (by kernel_rfl), Eq.mp (by kernel_rfl) hs⟩
theorem S.lock_order (hI : SoundI Tryz.prog J I) (mI : MonoI I) : SoundF Tryz.prog J 221 (F.lock_order ⟨I, kk⟩) := by
 refine SoundF.of_walk (I := lkI [(275, F.cmp_Compare_string ⟨I, kk⟩), (251, F.cmp_Or_int ⟨I, kk⟩)]) (lkI_sound ⟨S.cmp_Compare_string hI mI, S.cmp_Or_int hI mI, trivial⟩) (lkI_mono _) mixed W7.A.lock_order Tryz.func221 rfl (by kernel_rfl) (by kernel_rfl) Tryz.call221 fun args h K hs => ?_
 match args, hs with
 | [a0, a1], hs => exact ⟨Nat.le_of_ble_eq_true (by kernel_rfl), Eq.mp (by kernel_rfl) hs⟩
theorem S.lock_sorted (hI : SoundI Tryz.prog J I) (mI : MonoI I) : SoundF Tryz.prog J 143 (F.lock_sorted ⟨I, kk⟩) := by
 refine SoundF.of_walk (I := lkI [(220, F.slices_SortFunc_Slock_Key_lock_Key ⟨I, kk⟩), (222, F.slices_Compact_Slock_Key_lock_Key ⟨I, kk⟩)]) (lkI_sound ⟨S.slices_SortFunc_Slock_Key_lock_Key hI mI, S.slices_Compact_Slock_Key_lock_Key hI mI, trivial⟩) (lkI_mono _) mixed W7.A.lock_sorted Tryz.func143 rfl (by kernel_rfl) (by kernel_rfl) Tryz.call143 fun args h K hs => ?_
 match args, hs with
 | [a0], hs => exact ⟨Nat.le_of_ble_eq_true (by kernel_rfl), Eq.mp (by kernel_rfl) hs⟩
theorem S.lock_Of (hI : SoundI Tryz.prog J I) (mI : MonoI I) : SoundF Tryz.prog J 84 (F.lock_Of ⟨I, kk⟩) := by
 refine SoundF.of_walk (I := lkI [(155, F.op_Kind ⟨I, kk⟩), (143, F.lock_sorted ⟨I, kk⟩)]) (lkI_sound ⟨S.op_Kind hI mI, S.lock_sorted hI mI, trivial⟩) (lkI_mono _) mixed W7.A.lock_Of Tryz.func84 rfl (by kernel_rfl) (by kernel_rfl) Tryz.call84 fun args h K hs => ?_
 match args, hs with
 | [a0], hs => exact ⟨Nat.le_of_ble_eq_true (by kernel_rfl), Eq.mp (by kernel_rfl) hs⟩
theorem S.slices_IndexFunc_Slock_Key_lock_Key (hI : SoundI Tryz.prog J I) (mI : MonoI I) : SoundF Tryz.prog J 242 (F.slices_IndexFunc_Slock_Key_lock_Key ⟨I, kk⟩) := by
 refine SoundF.of_walk (I := I) hI mI mixed W7.A.slices_IndexFunc_Slock_Key_lock_Key Tryz.func242 rfl (by kernel_rfl) (by kernel_rfl) Tryz.call242 fun args h K hs => ?_
 match args, hs with
 | [a0, a1], hs => exact ⟨Nat.le_of_ble_eq_true (by kernel_rfl), Eq.mp (by kernel_rfl) hs⟩
theorem S.slices_ContainsFunc_Slock_Key_lock_Key (hI : SoundI Tryz.prog J I) (mI : MonoI I) : SoundF Tryz.prog J 152 (F.slices_ContainsFunc_Slock_Key_lock_Key ⟨I, kk⟩) := by
 refine SoundF.of_walk (I := lkI [(242, F.slices_IndexFunc_Slock_Key_lock_Key ⟨I, kk⟩)]) (lkI_sound ⟨S.slices_IndexFunc_Slock_Key_lock_Key hI mI, trivial⟩) (lkI_mono _) mixed W7.A.slices_ContainsFunc_Slock_Key_lock_Key Tryz.func152 rfl (by kernel_rfl) (by kernel_rfl) Tryz.call152 fun args h K hs => ?_
 match args, hs with
 | [a0, a1], hs => exact ⟨Nat.le_of_ble_eq_true (by kernel_rfl), Eq.mp (by kernel_rfl) hs⟩
theorem S.lock_meet (hI : SoundI Tryz.prog J I) (mI : MonoI I) : SoundF Tryz.prog J 154 (F.lock_meet ⟨I, kk⟩) := by
 refine SoundF.of_walk (I := lkI []) (lkI_sound trivial) (lkI_mono _) mixed W7.A.lock_meet Tryz.func154 rfl (by kernel_rfl) (by kernel_rfl) Tryz.call154 fun args h K hs => ?_
 match args, hs with
 | [a0, a1], hs => exact ⟨Nat.le_of_ble_eq_true (by kernel_rfl), Eq.mp (by kernel_rfl) hs⟩
theorem S.lock_Locks_Take_1 (hI : SoundI Tryz.prog J I) (mI : MonoI I) : SoundF Tryz.prog J 153 (F.lock_Locks_Take_1 ⟨I, kk⟩) := by
 refine SoundF.of_walk (I := lkI [(154, F.lock_meet ⟨I, kk⟩)]) (lkI_sound ⟨S.lock_meet hI mI, trivial⟩) (lkI_mono _) mixed W7.A.lock_Locks_Take_1 Tryz.func153 rfl (by kernel_rfl) (by kernel_rfl) Tryz.call153 fun args h K hs => ?_
 match args, hs with
 | [a0, a1], hs => exact ⟨Nat.le_of_ble_eq_true (by kernel_rfl), Eq.mp (by kernel_rfl) hs⟩
theorem S.lock_Locks_Take (hI : SoundI Tryz.prog J I) (mI : MonoI I) : SoundF Tryz.prog J 83 (F.lock_Locks_Take ⟨I, kk⟩) := by
 refine SoundF.of_walk (I := lkI [(152, F.slices_ContainsFunc_Slock_Key_lock_Key ⟨I, kk⟩)]) (lkI_sound ⟨S.slices_ContainsFunc_Slock_Key_lock_Key hI mI, trivial⟩) (lkI_mono _) mixed W7.A.lock_Locks_Take Tryz.func83 rfl (by kernel_rfl) (by kernel_rfl) Tryz.call83 fun args h K hs => ?_
 match args, hs with
 | [a0, a1, a2], hs => exact ⟨Nat.le_of_ble_eq_true (by kernel_rfl), Eq.mp (by kernel_rfl) hs⟩
theorem S.slices_Clone_Sapi_Op_api_Op (hI : SoundI Tryz.prog J I) (mI : MonoI I) : SoundF Tryz.prog J 85 (F.slices_Clone_Sapi_Op_api_Op ⟨I, kk⟩) := by
 refine SoundF.of_walk (I := lkI []) (lkI_sound trivial) (lkI_mono _) mixed W7.A.slices_Clone_Sapi_Op_api_Op Tryz.func85 rfl (by kernel_rfl) (by kernel_rfl) Tryz.call85 fun args h K hs => ?_
 match args, hs with
 | [a0], hs => exact ⟨Nat.le_of_ble_eq_true (by kernel_rfl), Eq.mp (by kernel_rfl) hs⟩
theorem S.maps_Clone_map_string_string_string_string (hI : SoundI Tryz.prog J I) (mI : MonoI I) : SoundF Tryz.prog J 254 (F.maps_Clone_map_string_string_string_string ⟨I, kk⟩) := by
 refine SoundF.of_walk (I := lkI [(287, F.maps_clone ⟨I, kk⟩)]) (lkI_sound ⟨S.maps_clone hI mI, trivial⟩) (lkI_mono _) mixed W7.A.maps_Clone_map_string_string_string_string Tryz.func254 rfl (by kernel_rfl) (by kernel_rfl) Tryz.call254 fun args h K hs => ?_
 match args, hs with
 | [a0], hs => exact ⟨Nat.le_of_ble_eq_true (by kernel_rfl), Eq.mp (by kernel_rfl) hs⟩
theorem S.table_Table_Clone (hI : SoundI Tryz.prog J I) (mI : MonoI I) : SoundF Tryz.prog J 175 (F.table_Table_Clone ⟨I, kk⟩) := by
 refine SoundF.of_walk (I := lkI [(254, F.maps_Clone_map_string_string_string_string ⟨I, kk⟩)]) (lkI_sound ⟨S.maps_Clone_map_string_string_string_string hI mI, trivial⟩) (lkI_mono _) mixed W7.A.table_Table_Clone Tryz.func175 rfl (by kernel_rfl) (by kernel_rfl) Tryz.call175 fun args h K hs => ?_
 match args, hs with
 | [a0], hs => exact ⟨Nat.le_of_ble_eq_true (by kernel_rfl), Eq.mp (by kernel_rfl) hs⟩
theorem S.slices_Clone_Sapi_Msg_api_Msg (hI : SoundI Tryz.prog J I) (mI : MonoI I) : SoundF Tryz.prog J 99 (F.slices_Clone_Sapi_Msg_api_Msg ⟨I, kk⟩) := by
 refine SoundF.of_walk (I := lkI []) (lkI_sound trivial) (lkI_mono _) mixed W7.A.slices_Clone_Sapi_Msg_api_Msg Tryz.func99 rfl (by kernel_rfl) (by kernel_rfl) Tryz.call99 fun args h K hs => ?_
 match args, hs with
 | [a0], hs => exact ⟨Nat.le_of_ble_eq_true (by kernel_rfl), Eq.mp (by kernel_rfl) hs⟩
theorem S.queue_Queue_Clone (hI : SoundI Tryz.prog J I) (mI : MonoI I) : SoundF Tryz.prog J 176 (F.queue_Queue_Clone ⟨I, kk⟩) := by
 refine SoundF.of_walk (I := lkI [(99, F.slices_Clone_Sapi_Msg_api_Msg ⟨I, kk⟩)]) (lkI_sound ⟨S.slices_Clone_Sapi_Msg_api_Msg hI mI, trivial⟩) (lkI_mono _) mixed W7.A.queue_Queue_Clone Tryz.func176 rfl (by kernel_rfl) (by kernel_rfl) Tryz.call176 fun args h K hs => ?_
 match args, hs with
 | [a0], hs => exact ⟨Nat.le_of_ble_eq_true (by kernel_rfl), Eq.mp (by kernel_rfl) hs⟩
theorem S.maps_Clone_map_string_int64_string_int64 (hI : SoundI Tryz.prog J I) (mI : MonoI I) : SoundF Tryz.prog J 255 (F.maps_Clone_map_string_int64_string_int64 ⟨I, kk⟩) := by
 refine SoundF.of_walk (I := lkI [(287, F.maps_clone ⟨I, kk⟩)]) (lkI_sound ⟨S.maps_clone hI mI, trivial⟩) (lkI_mono _) mixed W7.A.maps_Clone_map_string_int64_string_int64 Tryz.func255 rfl (by kernel_rfl) (by kernel_rfl) Tryz.call255 fun args h K hs => ?_
 match args, hs with
 | [a0], hs => exact ⟨Nat.le_of_ble_eq_true (by kernel_rfl), Eq.mp (by kernel_rfl) hs⟩
theorem S.topic_Topic_Clone (hI : SoundI Tryz.prog J I) (mI : MonoI I) : SoundF Tryz.prog J 177 (F.topic_Topic_Clone ⟨I, kk⟩) := by
 refine SoundF.of_walk (I := lkI [(82, F.slices_Clone_Sstring_string ⟨I, kk⟩), (255, F.maps_Clone_map_string_int64_string_int64 ⟨I, kk⟩)]) (lkI_sound ⟨S.slices_Clone_Sstring_string hI mI, S.maps_Clone_map_string_int64_string_int64 hI mI, trivial⟩) (lkI_mono _) mixed W7.A.topic_Topic_Clone Tryz.func177 rfl (by kernel_rfl) (by kernel_rfl) Tryz.call177 fun args h K hs => ?_
 match args, hs with
 | [a0], hs => exact ⟨Nat.le_of_ble_eq_true (by kernel_rfl), Eq.mp (by kernel_rfl) hs⟩
theorem S.space_Space_Clone (hI : SoundI Tryz.prog J I) (mI : MonoI I) : SoundF Tryz.prog J 96 (F.space_Space_Clone ⟨I, kk⟩) := by
 refine SoundF.of_walk (I := lkI [(175, F.table_Table_Clone ⟨I, kk⟩), (176, F.queue_Queue_Clone ⟨I, kk⟩), (177, F.topic_Topic_Clone ⟨I, kk⟩)]) (lkI_sound ⟨S.table_Table_Clone hI mI, S.queue_Queue_Clone hI mI, S.topic_Topic_Clone hI mI, trivial⟩) (lkI_mono _) mixed W7.A.space_Space_Clone Tryz.func96 rfl (by kernel_rfl) (by kernel_rfl) Tryz.call96 fun args h K hs => ?_
 match args, hs with
 | [a0], hs => exact ⟨Nat.le_of_ble_eq_true (by kernel_rfl), Eq.mp (by kernel_rfl) hs⟩
theorem S.vault_Vault_sees (hI : SoundI Tryz.prog J I) (mI : MonoI I) : SoundF Tryz.prog J 156 (F.vault_Vault_sees ⟨I, kk⟩) := by
 refine SoundF.of_walk (I := lkI [(96, F.space_Space_Clone ⟨I, kk⟩)]) (lkI_sound ⟨S.space_Space_Clone hI mI, trivial⟩) (lkI_mono _) mixed W7.A.vault_Vault_sees Tryz.func156 rfl (by kernel_rfl) (by kernel_rfl) Tryz.call156 fun args h K hs => ?_
 match args, hs with
 | [a0, a1, a2], hs => exact ⟨Nat.le_of_ble_eq_true (by kernel_rfl), Eq.mp (by kernel_rfl) hs⟩
theorem S.vault_Vault_count (hI : SoundI Tryz.prog J I) (mI : MonoI I) : SoundF Tryz.prog J 157 (F.vault_Vault_count ⟨I, kk⟩) := by
 refine SoundF.of_walk (I := lkI []) (lkI_sound trivial) (lkI_mono _) mixed W7.A.vault_Vault_count Tryz.func157 rfl (by kernel_rfl) (by kernel_rfl) Tryz.call157 fun args h K hs => ?_
 match args, hs with
 | [a0, a1], hs => exact ⟨Nat.le_of_ble_eq_true (by kernel_rfl), Eq.mp (by kernel_rfl) hs⟩
theorem S.table_New (hI : SoundI Tryz.prog J I) (mI : MonoI I) : SoundF Tryz.prog J 209 (F.table_New ⟨I, kk⟩) := by
 refine SoundF.of_walk (I := lkI []) (lkI_sound trivial) (lkI_mono _) mixed W7.A.table_New Tryz.func209 rfl (by kernel_rfl) (by kernel_rfl) Tryz.call209 fun args h K hs => ?_
 match args, hs with
 | [], hs => exact ⟨Nat.le_of_ble_eq_true (by kernel_rfl), Eq.mp (by kernel_rfl) hs⟩
theorem S.queue_New (hI : SoundI Tryz.prog J I) (mI : MonoI I) : SoundF Tryz.prog J 210 (F.queue_New ⟨I, kk⟩) := by
 refine SoundF.of_walk (I := lkI []) (lkI_sound trivial) (lkI_mono _) mixed W7.A.queue_New Tryz.func210 rfl (by kernel_rfl) (by kernel_rfl) Tryz.call210 fun args h K hs => ?_
 match args, hs with
 | [a0], hs => exact ⟨Nat.le_of_ble_eq_true (by kernel_rfl), Eq.mp (by kernel_rfl) hs⟩
theorem S.topic_New (hI : SoundI Tryz.prog J I) (mI : MonoI I) : SoundF Tryz.prog J 211 (F.topic_New ⟨I, kk⟩) := by
 refine SoundF.of_walk (I := lkI []) (lkI_sound trivial) (lkI_mono _) mixed W7.A.topic_New Tryz.func211 rfl (by kernel_rfl) (by kernel_rfl) Tryz.call211 fun args h K hs => ?_
 match args, hs with
 | [], hs => exact ⟨Nat.le_of_ble_eq_true (by kernel_rfl), Eq.mp (by kernel_rfl) hs⟩
theorem S.space_New (hI : SoundI Tryz.prog J I) (mI : MonoI I) : SoundF Tryz.prog J 158 (F.space_New ⟨I, kk⟩) := by
 refine SoundF.of_walk (I := lkI [(209, F.table_New ⟨I, kk⟩), (210, F.queue_New ⟨I, kk⟩), (211, F.topic_New ⟨I, kk⟩)]) (lkI_sound ⟨S.table_New hI mI, S.queue_New hI mI, S.topic_New hI mI, trivial⟩) (lkI_mono _) mixed W7.A.space_New Tryz.func158 rfl (by kernel_rfl) (by kernel_rfl) Tryz.call158 fun args h K hs => ?_
 match args, hs with
 | [a0, a1], hs => exact ⟨Nat.le_of_ble_eq_true (by kernel_rfl), Eq.mp (by kernel_rfl) hs⟩
theorem S.table_Table_Put (hI : SoundI Tryz.prog J I) (mI : MonoI I) : SoundF Tryz.prog J 34 (F.table_Table_Put ⟨I, kk⟩) := by
 refine SoundF.of_walk (I := lkI []) (lkI_sound trivial) (lkI_mono _) mixed W7.A.table_Table_Put Tryz.func34 rfl (by kernel_rfl) (by kernel_rfl) Tryz.call34 fun args h K hs => ?_
 match args, hs with
 | [a0, a1, a2], hs => exact ⟨Nat.le_of_ble_eq_true (by kernel_rfl), Eq.mp (by kernel_rfl) hs⟩
theorem S.table_Table_Get (hI : SoundI Tryz.prog J I) (mI : MonoI I) : SoundF Tryz.prog J 35 (F.table_Table_Get ⟨I, kk⟩) := by
 refine SoundF.of_walk (I := lkI []) (lkI_sound trivial) (lkI_mono _) mixed W7.A.table_Table_Get Tryz.func35 rfl (by kernel_rfl) (by kernel_rfl) Tryz.call35 fun args h K hs => ?_
 match args, hs with
 | [a0, a1], hs => exact ⟨Nat.le_of_ble_eq_true (by kernel_rfl), Eq.mp (by kernel_rfl) hs⟩
theorem S.table_Table_Del (hI : SoundI Tryz.prog J I) (mI : MonoI I) : SoundF Tryz.prog J 144 (F.table_Table_Del ⟨I, kk⟩) := by
 refine SoundF.of_walk (I := lkI [(35, F.table_Table_Get ⟨I, kk⟩)]) (lkI_sound ⟨S.table_Table_Get hI mI, trivial⟩) (lkI_mono _) mixed W7.A.table_Table_Del Tryz.func144 rfl (by kernel_rfl) (by kernel_rfl) Tryz.call144 fun args h K hs => ?_
 match args, hs with
 | [a0, a1], hs => exact ⟨Nat.le_of_ble_eq_true (by kernel_rfl), Eq.mp (by kernel_rfl) hs⟩
theorem S.space_Space_table (hI : SoundI Tryz.prog J I) (mI : MonoI I) : SoundF Tryz.prog J 243 (F.space_Space_table ⟨I, kk⟩) := by
 refine SoundF.of_walk (I := lkI [(34, F.table_Table_Put ⟨I, kk⟩), (144, F.table_Table_Del ⟨I, kk⟩), (35, F.table_Table_Get ⟨I, kk⟩)]) (lkI_sound ⟨S.table_Table_Put hI mI, S.table_Table_Del hI mI, S.table_Table_Get hI mI, trivial⟩) (lkI_mono _) mixed W7.A.space_Space_table Tryz.func243 rfl (by kernel_rfl) (by kernel_rfl) Tryz.call243 fun args h K hs => ?_
 match args, hs with
 | [a0, a1], hs => exact ⟨Nat.le_of_ble_eq_true (by kernel_rfl), Eq.mp (by kernel_rfl) hs⟩
theorem S.queue_Queue_Send (hI : SoundI Tryz.prog J I) (mI : MonoI I) : SoundF Tryz.prog J 212 (F.queue_Queue_Send ⟨I, kk⟩) := by
 refine SoundF.of_walk (I := lkI []) (lkI_sound trivial) (lkI_mono _) mixed W7.A.queue_Queue_Send Tryz.func212 rfl (by kernel_rfl) (by kernel_rfl) Tryz.call212 fun args h K hs => ?_
 match args, hs with
 | [a0, a1], hs => exact ⟨Nat.le_of_ble_eq_true (by kernel_rfl), Eq.mp (by kernel_rfl) hs⟩
theorem S.space_text (hI : SoundI Tryz.prog J I) (mI : MonoI I) : SoundF Tryz.prog J 280 (F.space_text ⟨I, kk⟩) := by
 refine SoundF.of_walk (I := lkI [(321, F.strconv_FormatInt ⟨I, kk⟩)]) (lkI_sound ⟨S.strconv_FormatInt hI mI, trivial⟩) (lkI_mono _) mixed W7.A.space_text Tryz.func280 rfl (by kernel_rfl) (by kernel_rfl) Tryz.call280 fun args h K hs => ?_
 match args, hs with
 | [a0], hs => exact ⟨Nat.le_of_ble_eq_true (by kernel_rfl), Eq.mp (by kernel_rfl) hs⟩
theorem S.slices_Delete_Sapi_Msg_api_Msg (hI : SoundI Tryz.prog J I) (mI : MonoI I) : SoundF Tryz.prog J 269 (F.slices_Delete_Sapi_Msg_api_Msg ⟨I, kk⟩) := by
 refine SoundF.of_walk (I := lkI []) (lkI_sound trivial) (lkI_mono _) mixed W7.A.slices_Delete_Sapi_Msg_api_Msg Tryz.func269 rfl (by kernel_rfl) (by kernel_rfl) Tryz.call269 fun args h K hs => ?_
 match args, hs with
 | [a0, a1, a2], hs => exact ⟨Nat.le_of_ble_eq_true (by kernel_rfl), Eq.mp (by kernel_rfl) hs⟩
theorem S.queue_Queue_Recv (hI : SoundI Tryz.prog J I) (mI : MonoI I) : SoundF Tryz.prog J 213 (F.queue_Queue_Recv ⟨I, kk⟩) := by
 refine SoundF.of_walk (I := lkI [(269, F.slices_Delete_Sapi_Msg_api_Msg ⟨I, kk⟩)]) (lkI_sound ⟨S.slices_Delete_Sapi_Msg_api_Msg hI mI, trivial⟩) (lkI_mono _) mixed W7.A.queue_Queue_Recv Tryz.func213 rfl (by kernel_rfl) (by kernel_rfl) Tryz.call213 fun args h K hs => ?_
 match args, hs with
 | [a0, a1, a2], hs => exact ⟨Nat.le_of_ble_eq_true (by kernel_rfl), Eq.mp (by kernel_rfl) hs⟩
theorem S.space_number (hI : SoundI Tryz.prog J I) (mI : MonoI I) : SoundF Tryz.prog J 281 (F.space_number ⟨I, kk⟩) := by
 refine SoundF.of_walk (I := lkI [(322, F.strings_Trim ⟨I, kk⟩), (323, F.strconv_ParseInt ⟨I, kk⟩)]) (lkI_sound ⟨S.strings_Trim hI mI, S.strconv_ParseInt hI mI, trivial⟩) (lkI_mono _) mixed W7.A.space_number Tryz.func281 rfl (by kernel_rfl) (by kernel_rfl) Tryz.call281 fun args h K hs => ?_
 match args, hs with
 | [a0], hs => exact ⟨Nat.le_of_ble_eq_true (by kernel_rfl), Eq.mp (by kernel_rfl) hs⟩
theorem S.slices_IndexFunc_Sapi_Msg_api_Msg (hI : SoundI Tryz.prog J I) (mI : MonoI I) : SoundF Tryz.prog J 270 (F.slices_IndexFunc_Sapi_Msg_api_Msg ⟨I, kk⟩) := by
 refine SoundF.of_walk (I := I) hI mI mixed W7.A.slices_IndexFunc_Sapi_Msg_api_Msg Tryz.func270 rfl (by kernel_rfl) (by kernel_rfl) Tryz.call270 fun args h K hs => ?_
 match args, hs with
 | [a0, a1], hs => exact ⟨Nat.le_of_ble_eq_true (by kernel_rfl), Eq.mp (by kernel_rfl) hs⟩
theorem S.queue_Queue_Ack_1 (hI : SoundI Tryz.prog J I) (mI : MonoI I) : SoundF Tryz.prog J 271 (F.queue_Queue_Ack_1 ⟨I, kk⟩) := by
 refine SoundF.of_walk (I := lkI []) (lkI_sound trivial) (lkI_mono _) mixed W7.A.queue_Queue_Ack_1 Tryz.func271 rfl (by kernel_rfl) (by kernel_rfl) Tryz.call271 fun args h K hs => ?_
 match args, hs with
 | [a0, a1, a2, a3], hs => exact ⟨Nat.le_of_ble_eq_true (by kernel_rfl), Eq.mp (by kernel_rfl) hs⟩
theorem S.queue_Queue_Ack (hI : SoundI Tryz.prog J I) (mI : MonoI I) : SoundF Tryz.prog J 214 (F.queue_Queue_Ack ⟨I, kk⟩) := by
 refine SoundF.of_walk (I := lkI [(270, F.slices_IndexFunc_Sapi_Msg_api_Msg ⟨I, kk⟩), (269, F.slices_Delete_Sapi_Msg_api_Msg ⟨I, kk⟩)]) (lkI_sound ⟨S.slices_IndexFunc_Sapi_Msg_api_Msg hI mI, S.slices_Delete_Sapi_Msg_api_Msg hI mI, trivial⟩) (lkI_mono _) mixed W7.A.queue_Queue_Ack Tryz.func214 rfl (by kernel_rfl) (by kernel_rfl) Tryz.call214 fun args h K hs => ?_
 match args, hs with
 | [a0, a1, a2, a3], hs => exact ⟨Nat.le_of_ble_eq_true (by kernel_rfl), Eq.mp (by kernel_rfl) hs⟩
theorem S.queue_Queue_Dead (hI : SoundI Tryz.prog J I) (mI : MonoI I) : SoundF Tryz.prog J 282 (F.queue_Queue_Dead ⟨I, kk⟩) := by
 refine SoundF.of_walk (I := lkI [(269, F.slices_Delete_Sapi_Msg_api_Msg ⟨I, kk⟩)]) (lkI_sound ⟨S.slices_Delete_Sapi_Msg_api_Msg hI mI, trivial⟩) (lkI_mono _) mixed W7.A.queue_Queue_Dead Tryz.func282 rfl (by kernel_rfl) (by kernel_rfl) Tryz.call282 fun args h K hs => ?_
 match args, hs with
 | [a0], hs => exact ⟨Nat.le_of_ble_eq_true (by kernel_rfl), Eq.mp (by kernel_rfl) hs⟩
theorem S.space_Space_queue (hI : SoundI Tryz.prog J I) (mI : MonoI I) : SoundF Tryz.prog J 244 (F.space_Space_queue ⟨I, kk⟩) := by
 refine SoundF.of_walk (I := lkI [(212, F.queue_Queue_Send ⟨I, kk⟩), (280, F.space_text ⟨I, kk⟩), (213, F.queue_Queue_Recv ⟨I, kk⟩), (281, F.space_number ⟨I, kk⟩), (214, F.queue_Queue_Ack ⟨I, kk⟩), (282, F.queue_Queue_Dead ⟨I, kk⟩)]) (lkI_sound ⟨S.queue_Queue_Send hI mI, S.space_text hI mI, S.queue_Queue_Recv hI mI, S.space_number hI mI, S.queue_Queue_Ack hI mI, S.queue_Queue_Dead hI mI, trivial⟩) (lkI_mono _) mixed W7.A.space_Space_queue Tryz.func244 rfl (by kernel_rfl) (by kernel_rfl) Tryz.call244 fun args h K hs => ?_
 match args, hs with
 | [a0, a1, a2], hs => exact ⟨Nat.le_of_ble_eq_true (by kernel_rfl), Eq.mp (by kernel_rfl) hs⟩
theorem S.topic_Topic_Len (hI : SoundI Tryz.prog J I) (mI : MonoI I) : SoundF Tryz.prog J 248 (F.topic_Topic_Len ⟨I, kk⟩) := by
 refine SoundF.of_walk (I := lkI []) (lkI_sound trivial) (lkI_mono _) mixed W7.A.topic_Topic_Len Tryz.func248 rfl (by kernel_rfl) (by kernel_rfl) Tryz.call248 fun args h K hs => ?_
 match args, hs with
 | [a0], hs => exact ⟨Nat.le_of_ble_eq_true (by kernel_rfl), Eq.mp (by kernel_rfl) hs⟩
theorem S.topic_Topic_Pub (hI : SoundI Tryz.prog J I) (mI : MonoI I) : SoundF Tryz.prog J 215 (F.topic_Topic_Pub ⟨I, kk⟩) := by
 refine SoundF.of_walk (I := lkI [(248, F.topic_Topic_Len ⟨I, kk⟩)]) (lkI_sound ⟨S.topic_Topic_Len hI mI, trivial⟩) (lkI_mono _) mixed W7.A.topic_Topic_Pub Tryz.func215 rfl (by kernel_rfl) (by kernel_rfl) Tryz.call215 fun args h K hs => ?_
 match args, hs with
 | [a0, a1], hs => exact ⟨Nat.le_of_ble_eq_true (by kernel_rfl), Eq.mp (by kernel_rfl) hs⟩
theorem S.topic_Topic_At (hI : SoundI Tryz.prog J I) (mI : MonoI I) : SoundF Tryz.prog J 184 (F.topic_Topic_At ⟨I, kk⟩) := by
 refine SoundF.of_walk (I := lkI []) (lkI_sound trivial) (lkI_mono _) mixed W7.A.topic_Topic_At Tryz.func184 rfl (by kernel_rfl) (by kernel_rfl) Tryz.call184 fun args h K hs => ?_
 match args, hs with
 | [a0, a1], hs => exact ⟨Nat.le_of_ble_eq_true (by kernel_rfl), Eq.mp (by kernel_rfl) hs⟩
theorem S.topic_Topic_Fetch (hI : SoundI Tryz.prog J I) (mI : MonoI I) : SoundF Tryz.prog J 167 (F.topic_Topic_Fetch ⟨I, kk⟩) := by
 refine SoundF.of_walk (I := lkI [(184, F.topic_Topic_At ⟨I, kk⟩), (248, F.topic_Topic_Len ⟨I, kk⟩), (82, F.slices_Clone_Sstring_string ⟨I, kk⟩)]) (lkI_sound ⟨S.topic_Topic_At hI mI, S.topic_Topic_Len hI mI, S.slices_Clone_Sstring_string hI mI, trivial⟩) (lkI_mono _) mixed W7.A.topic_Topic_Fetch Tryz.func167 rfl (by kernel_rfl) (by kernel_rfl) Tryz.call167 fun args h K hs => ?_
 match args, hs with
 | [a0, a1, a2], hs => exact ⟨Nat.le_of_ble_eq_true (by kernel_rfl), Eq.mp (by kernel_rfl) hs⟩
theorem S.topic_Topic_Seek (hI : SoundI Tryz.prog J I) (mI : MonoI I) : SoundF Tryz.prog J 216 (F.topic_Topic_Seek ⟨I, kk⟩) := by
 refine SoundF.of_walk (I := lkI [(184, F.topic_Topic_At ⟨I, kk⟩), (248, F.topic_Topic_Len ⟨I, kk⟩)]) (lkI_sound ⟨S.topic_Topic_At hI mI, S.topic_Topic_Len hI mI, trivial⟩) (lkI_mono _) mixed W7.A.topic_Topic_Seek Tryz.func216 rfl (by kernel_rfl) (by kernel_rfl) Tryz.call216 fun args h K hs => ?_
 match args, hs with
 | [a0, a1, a2, a3], hs => exact ⟨Nat.le_of_ble_eq_true (by kernel_rfl), Eq.mp (by kernel_rfl) hs⟩
theorem S.space_Space_topic (hI : SoundI Tryz.prog J I) (mI : MonoI I) : SoundF Tryz.prog J 245 (F.space_Space_topic ⟨I, kk⟩) := by
 refine SoundF.of_walk (I := lkI [(215, F.topic_Topic_Pub ⟨I, kk⟩), (280, F.space_text ⟨I, kk⟩), (167, F.topic_Topic_Fetch ⟨I, kk⟩), (281, F.space_number ⟨I, kk⟩), (216, F.topic_Topic_Seek ⟨I, kk⟩)]) (lkI_sound ⟨S.topic_Topic_Pub hI mI, S.space_text hI mI, S.topic_Topic_Fetch hI mI, S.space_number hI mI, S.topic_Topic_Seek hI mI, trivial⟩) (lkI_mono _) mixed W7.A.space_Space_topic Tryz.func245 rfl (by kernel_rfl) (by kernel_rfl) Tryz.call245 fun args h K hs => ?_
 match args, hs with
 | [a0, a1], hs => exact ⟨Nat.le_of_ble_eq_true (by kernel_rfl), Eq.mp (by kernel_rfl) hs⟩
theorem S.space_Space_Do (hI : SoundI Tryz.prog J I) (mI : MonoI I) : SoundF Tryz.prog J 159 (F.space_Space_Do ⟨I, kk⟩) := by
 refine SoundF.of_walk (I := lkI [(243, F.space_Space_table ⟨I, kk⟩), (244, F.space_Space_queue ⟨I, kk⟩), (245, F.space_Space_topic ⟨I, kk⟩)]) (lkI_sound ⟨S.space_Space_table hI mI, S.space_Space_queue hI mI, S.space_Space_topic hI mI, trivial⟩) (lkI_mono _) mixed W7.A.space_Space_Do Tryz.func159 rfl (by kernel_rfl) (by kernel_rfl) Tryz.call159 fun args h K hs => ?_
 match args, hs with
 | [a0, a1, a2], hs => exact ⟨Nat.le_of_ble_eq_true (by kernel_rfl), Eq.mp (by kernel_rfl) hs⟩
theorem S.vault_Vault_does (hI : SoundI Tryz.prog J I) (mI : MonoI I) : SoundF Tryz.prog J 86 (F.vault_Vault_does ⟨I, kk⟩) := by
 refine SoundF.of_walk (I := lkI [(156, F.vault_Vault_sees ⟨I, kk⟩), (157, F.vault_Vault_count ⟨I, kk⟩), (158, F.space_New ⟨I, kk⟩), (159, F.space_Space_Do ⟨I, kk⟩)]) (lkI_sound ⟨S.vault_Vault_sees hI mI, S.vault_Vault_count hI mI, S.space_New hI mI, S.space_Space_Do hI mI, trivial⟩) (lkI_mono _) mixed W7.A.vault_Vault_does Tryz.func86 rfl (by kernel_rfl) (by kernel_rfl) Tryz.call86 fun args h K hs => ?_
 match args, hs with
 | [a0, a1, a2], hs => exact ⟨Nat.le_of_ble_eq_true (by kernel_rfl), Eq.mp (by kernel_rfl) hs⟩
theorem S.lock_Locks_Has (hI : SoundI Tryz.prog J I) (mI : MonoI I) : SoundF Tryz.prog J 75 (F.lock_Locks_Has ⟨I, kk⟩) := by
 refine SoundF.of_walk (I := lkI [(143, F.lock_sorted ⟨I, kk⟩)]) (lkI_sound ⟨S.lock_sorted hI mI, trivial⟩) (lkI_mono _) mixed W7.A.lock_Locks_Has Tryz.func75 rfl (by kernel_rfl) (by kernel_rfl) Tryz.call75 fun args h K hs => ?_
 match args, hs with
 | [a0, a1], hs => exact ⟨Nat.le_of_ble_eq_true (by kernel_rfl), Eq.mp (by kernel_rfl) hs⟩
theorem S.lock_Locks_Free (hI : SoundI Tryz.prog J I) (mI : MonoI I) : SoundF Tryz.prog J 76 (F.lock_Locks_Free ⟨I, kk⟩) := by
 refine SoundF.of_walk (I := lkI [(75, F.lock_Locks_Has ⟨I, kk⟩)]) (lkI_sound ⟨S.lock_Locks_Has hI mI, trivial⟩) (lkI_mono _) mixed W7.A.lock_Locks_Free Tryz.func76 rfl (by kernel_rfl) (by kernel_rfl) Tryz.call76 fun args h K hs => ?_
 match args, hs with
 | [a0, a1], hs => exact ⟨Nat.le_of_ble_eq_true (by kernel_rfl), Eq.mp (by kernel_rfl) hs⟩
theorem S.vault_Vault_Prepare (hI : SoundI Tryz.prog J I) (mI : MonoI I) : SoundF Tryz.prog J 22 (F.vault_Vault_Prepare ⟨I, kk⟩) := by
 refine SoundF.of_walk (I := lkI [(80, F.name_Ids_Has ⟨I, kk⟩), (81, F.op_All ⟨I, kk⟩), (82, F.slices_Clone_Sstring_string ⟨I, kk⟩), (84, F.lock_Of ⟨I, kk⟩), (83, F.lock_Locks_Take ⟨I, kk⟩), (85, F.slices_Clone_Sapi_Op_api_Op ⟨I, kk⟩), (86, F.vault_Vault_does ⟨I, kk⟩), (76, F.lock_Locks_Free ⟨I, kk⟩)]) (lkI_sound ⟨S.name_Ids_Has hI mI, S.op_All hI mI, S.slices_Clone_Sstring_string hI mI, S.lock_Of hI mI, S.lock_Locks_Take hI mI, S.slices_Clone_Sapi_Op_api_Op hI mI, S.vault_Vault_does hI mI, S.lock_Locks_Free hI mI, trivial⟩) (lkI_mono _) mixed W7.A.vault_Vault_Prepare Tryz.func22 rfl (by kernel_rfl) (by kernel_rfl) Tryz.call22 fun args h K hs => ?_
 match args, hs with
 | [a0, a1, a2, a3], hs => exact ⟨Nat.le_of_ble_eq_true (by kernel_rfl), Eq.mp (by kernel_rfl) hs⟩
theorem S.name_Ids_Add (hI : SoundI Tryz.prog J I) (mI : MonoI I) : SoundF Tryz.prog J 74 (F.name_Ids_Add ⟨I, kk⟩) := by
 refine SoundF.of_walk (I := lkI []) (lkI_sound trivial) (lkI_mono _) mixed W7.A.name_Ids_Add Tryz.func74 rfl (by kernel_rfl) (by kernel_rfl) Tryz.call74 fun args h K hs => ?_
 match args, hs with
 | [a0, a1], hs => exact ⟨Nat.le_of_ble_eq_true (by kernel_rfl), Eq.mp (by kernel_rfl) hs⟩
theorem S.vault_Vault_lays (hI : SoundI Tryz.prog J I) (mI : MonoI I) : SoundF Tryz.prog J 77 (F.vault_Vault_lays ⟨I, kk⟩) := by
 refine SoundF.of_walk (I := lkI [(35, F.table_Table_Get ⟨I, kk⟩), (34, F.table_Table_Put ⟨I, kk⟩), (144, F.table_Table_Del ⟨I, kk⟩)]) (lkI_sound ⟨S.table_Table_Get hI mI, S.table_Table_Put hI mI, S.table_Table_Del hI mI, trivial⟩) (lkI_mono _) mixed W7.A.vault_Vault_lays Tryz.func77 rfl (by kernel_rfl) (by kernel_rfl) Tryz.call77 fun args h K hs => ?_
 match args, hs with
 | [a0, a1, a2, a3], hs => exact ⟨Nat.le_of_ble_eq_true (by kernel_rfl), Eq.mp (by kernel_rfl) hs⟩
theorem S.vault_Vault_Decide (hI : SoundI Tryz.prog J I) (mI : MonoI I) : SoundF Tryz.prog J 19 (F.vault_Vault_Decide ⟨I, kk⟩) := by
 refine SoundF.of_walk (I := lkI [(74, F.name_Ids_Add ⟨I, kk⟩), (75, F.lock_Locks_Has ⟨I, kk⟩), (76, F.lock_Locks_Free ⟨I, kk⟩), (77, F.vault_Vault_lays ⟨I, kk⟩)]) (lkI_sound ⟨S.name_Ids_Add hI mI, S.lock_Locks_Has hI mI, S.lock_Locks_Free hI mI, S.vault_Vault_lays hI mI, trivial⟩) (lkI_mono _) mixed W7.A.vault_Vault_Decide Tryz.func19 rfl (by kernel_rfl) (by kernel_rfl) Tryz.call19 fun args h K hs => ?_
 match args, hs with
 | [a0, a1, a2], hs => exact ⟨Nat.le_of_ble_eq_true (by kernel_rfl), Eq.mp (by kernel_rfl) hs⟩
theorem S.maps_Keys_map_api_Id_vault_part_api_Id_vault_part (hI : SoundI Tryz.prog J I) (mI : MonoI I) : SoundF Tryz.prog J 94 (F.maps_Keys_map_api_Id_vault_part_api_Id_vault_part ⟨I, kk⟩) := by
 refine SoundF.of_walk (I := lkI []) (lkI_sound trivial) (lkI_mono _) mixed W7.A.maps_Keys_map_api_Id_vault_part_api_Id_vault_part Tryz.func94 rfl (by kernel_rfl) (by kernel_rfl) Tryz.call94 fun args h K hs => ?_
 match args, hs with
 | [a0], hs => exact ⟨Nat.le_of_ble_eq_true (by kernel_rfl), Eq.mp (by kernel_rfl) hs⟩
theorem S.maps_Keys_map_api_Id_bool_api_Id_bool (hI : SoundI Tryz.prog J I) (mI : MonoI I) : SoundF Tryz.prog J 173 (F.maps_Keys_map_api_Id_bool_api_Id_bool ⟨I, kk⟩) := by
 refine SoundF.of_walk (I := lkI []) (lkI_sound trivial) (lkI_mono _) mixed W7.A.maps_Keys_map_api_Id_bool_api_Id_bool Tryz.func173 rfl (by kernel_rfl) (by kernel_rfl) Tryz.call173 fun args h K hs => ?_
 match args, hs with
 | [a0], hs => exact ⟨Nat.le_of_ble_eq_true (by kernel_rfl), Eq.mp (by kernel_rfl) hs⟩
theorem S.slices_insertionSortCmpFunc_api_Id (hI : SoundI Tryz.prog J I) (mI : MonoI I) : SoundF Tryz.prog J 325 (F.slices_insertionSortCmpFunc_api_Id ⟨I, kk⟩) := by
 refine SoundF.of_walk (I := I) hI mI mixed W7.A.slices_insertionSortCmpFunc_api_Id Tryz.func325 rfl (by kernel_rfl) (by kernel_rfl) Tryz.call325 fun args h K hs => ?_
 match args, hs with
 | [a0, a1, a2, a3], hs => exact ⟨Nat.le_of_ble_eq_true (by kernel_rfl), Eq.mp (by kernel_rfl) hs⟩
theorem Sr.slices_pdqsortCmpFunc_api_Id (hI : SoundI Tryz.prog J I) (mI : MonoI I) : ∀ fuel, SoundF Tryz.prog J 284 (Fr.slices_pdqsortCmpFunc_api_Id fuel ⟨I, kk⟩)
 | 0 => SoundF.no
 | fuel + 1 => by
  refine SoundF.of_walk (I := lkI [(325, F.slices_insertionSortCmpFunc_api_Id ⟨I, kk⟩), (284, Fr.slices_pdqsortCmpFunc_api_Id fuel ⟨I, kk⟩)]) (lkI_sound ⟨S.slices_insertionSortCmpFunc_api_Id hI mI, Sr.slices_pdqsortCmpFunc_api_Id hI mI fuel, trivial⟩) (lkI_mono _) mixed W7.A.slices_pdqsortCmpFunc_api_Id Tryz.func284 rfl (by kernel_rfl) (by kernel_rfl) Tryz.call284 fun args h K hs => ?_
  match args, hs with
  | [a0, a1, a2, a3, a4], hs => exact ⟨Nat.le_of_ble_eq_true (by kernel_rfl), Eq.mp (by kernel_rfl) hs⟩
theorem S.slices_pdqsortCmpFunc_api_Id (hI : SoundI Tryz.prog J I) (mI : MonoI I) : SoundF Tryz.prog J 284 (F.slices_pdqsortCmpFunc_api_Id ⟨I, kk⟩) := SoundF.ex (Sr.slices_pdqsortCmpFunc_api_Id hI mI)
theorem S.slices_SortFunc_Sapi_Id_api_Id (hI : SoundI Tryz.prog J I) (mI : MonoI I) : SoundF Tryz.prog J 249 (F.slices_SortFunc_Sapi_Id_api_Id ⟨I, kk⟩) := by
 refine SoundF.of_walk (I := lkI [(258, F.math_bits_Len ⟨I, kk⟩), (284, F.slices_pdqsortCmpFunc_api_Id ⟨I, kk⟩)]) (lkI_sound ⟨S.math_bits_Len hI mI, S.slices_pdqsortCmpFunc_api_Id hI mI, trivial⟩) (lkI_mono _) mixed W7.A.slices_SortFunc_Sapi_Id_api_Id Tryz.func249 rfl (by kernel_rfl) (by kernel_rfl) Tryz.call249 fun args h K hs => ?_
 match args, hs with
 | [a0, a1], hs => exact ⟨Nat.le_of_ble_eq_true (by kernel_rfl), Eq.mp (by kernel_rfl) hs⟩
theorem S.slices_SortedFunc_api_Id (hI : SoundI Tryz.prog J I) (mI : MonoI I) : SoundF Tryz.prog J 172 (F.slices_SortedFunc_api_Id ⟨I, kk⟩) := by
 refine SoundF.of_walk (I := lkI [(93, F.slices_Collect_api_Id ⟨I, kk⟩), (249, F.slices_SortFunc_Sapi_Id_api_Id ⟨I, kk⟩)]) (lkI_sound ⟨S.slices_Collect_api_Id hI mI, S.slices_SortFunc_Sapi_Id_api_Id hI mI, trivial⟩) (lkI_mono _) mixed W7.A.slices_SortedFunc_api_Id Tryz.func172 rfl (by kernel_rfl) (by kernel_rfl) Tryz.call172 fun args h K hs => ?_
 match args, hs with
 | [a0, a1], hs => exact ⟨Nat.le_of_ble_eq_true (by kernel_rfl), Eq.mp (by kernel_rfl) hs⟩
theorem S.cmp_isNaN_int (hI : SoundI Tryz.prog J I) (mI : MonoI I) : SoundF Tryz.prog J 285 (F.cmp_isNaN_int ⟨I, kk⟩) := by
 refine SoundF.of_walk (I := lkI []) (lkI_sound trivial) (lkI_mono _) mixed W7.A.cmp_isNaN_int Tryz.func285 rfl (by kernel_rfl) (by kernel_rfl) Tryz.call285 fun args h K hs => ?_
 match args, hs with
 | [a0], hs => exact ⟨Nat.le_of_ble_eq_true (by kernel_rfl), Eq.mp (by kernel_rfl) hs⟩
theorem S.cmp_Compare_int (hI : SoundI Tryz.prog J I) (mI : MonoI I) : SoundF Tryz.prog J 252 (F.cmp_Compare_int ⟨I, kk⟩) := by
 refine SoundF.of_walk (I := lkI [(285, F.cmp_isNaN_int ⟨I, kk⟩)]) (lkI_sound ⟨S.cmp_isNaN_int hI mI, trivial⟩) (lkI_mono _) mixed W7.A.cmp_Compare_int Tryz.func252 rfl (by kernel_rfl) (by kernel_rfl) Tryz.call252 fun args h K hs => ?_
 match args, hs with
 | [a0, a1], hs => exact ⟨Nat.le_of_ble_eq_true (by kernel_rfl), Eq.mp (by kernel_rfl) hs⟩
theorem S.cmp_isNaN_int64 (hI : SoundI Tryz.prog J I) (mI : MonoI I) : SoundF Tryz.prog J 286 (F.cmp_isNaN_int64 ⟨I, kk⟩) := by
 refine SoundF.of_walk (I := lkI []) (lkI_sound trivial) (lkI_mono _) mixed W7.A.cmp_isNaN_int64 Tryz.func286 rfl (by kernel_rfl) (by kernel_rfl) Tryz.call286 fun args h K hs => ?_
 match args, hs with
 | [a0], hs => exact ⟨Nat.le_of_ble_eq_true (by kernel_rfl), Eq.mp (by kernel_rfl) hs⟩
theorem S.cmp_Compare_int64 (hI : SoundI Tryz.prog J I) (mI : MonoI I) : SoundF Tryz.prog J 253 (F.cmp_Compare_int64 ⟨I, kk⟩) := by
 refine SoundF.of_walk (I := lkI [(286, F.cmp_isNaN_int64 ⟨I, kk⟩)]) (lkI_sound ⟨S.cmp_isNaN_int64 hI mI, trivial⟩) (lkI_mono _) mixed W7.A.cmp_Compare_int64 Tryz.func253 rfl (by kernel_rfl) (by kernel_rfl) Tryz.call253 fun args h K hs => ?_
 match args, hs with
 | [a0, a1], hs => exact ⟨Nat.le_of_ble_eq_true (by kernel_rfl), Eq.mp (by kernel_rfl) hs⟩
theorem S.name_order (hI : SoundI Tryz.prog J I) (mI : MonoI I) : SoundF Tryz.prog J 174 (F.name_order ⟨I, kk⟩) := by
 refine SoundF.of_walk (I := lkI [(252, F.cmp_Compare_int ⟨I, kk⟩), (253, F.cmp_Compare_int64 ⟨I, kk⟩), (251, F.cmp_Or_int ⟨I, kk⟩)]) (lkI_sound ⟨S.cmp_Compare_int hI mI, S.cmp_Compare_int64 hI mI, S.cmp_Or_int hI mI, trivial⟩) (lkI_mono _) mixed W7.A.name_order Tryz.func174 rfl (by kernel_rfl) (by kernel_rfl) Tryz.call174 fun args h K hs => ?_
 match args, hs with
 | [a0, a1], hs => exact ⟨Nat.le_of_ble_eq_true (by kernel_rfl), Eq.mp (by kernel_rfl) hs⟩
theorem S.name_Ids_All (hI : SoundI Tryz.prog J I) (mI : MonoI I) : SoundF Tryz.prog J 95 (F.name_Ids_All ⟨I, kk⟩) := by
 refine SoundF.of_walk (I := lkI [(173, F.maps_Keys_map_api_Id_bool_api_Id_bool ⟨I, kk⟩), (172, F.slices_SortedFunc_api_Id ⟨I, kk⟩)]) (lkI_sound ⟨S.maps_Keys_map_api_Id_bool_api_Id_bool hI mI, S.slices_SortedFunc_api_Id hI mI, trivial⟩) (lkI_mono _) mixed W7.A.name_Ids_All Tryz.func95 rfl (by kernel_rfl) (by kernel_rfl) Tryz.call95 fun args h K hs => ?_
 match args, hs with
 | [a0], hs => exact ⟨Nat.le_of_ble_eq_true (by kernel_rfl), Eq.mp (by kernel_rfl) hs⟩
theorem S.vault_Vault_Waits (hI : SoundI Tryz.prog J I) (mI : MonoI I) : SoundF Tryz.prog J 32 (F.vault_Vault_Waits ⟨I, kk⟩) := by
 refine SoundF.of_walk (I := lkI [(94, F.maps_Keys_map_api_Id_vault_part_api_Id_vault_part ⟨I, kk⟩), (93, F.slices_Collect_api_Id ⟨I, kk⟩), (73, F.name_New ⟨I, kk⟩), (95, F.name_Ids_All ⟨I, kk⟩)]) (lkI_sound ⟨S.maps_Keys_map_api_Id_vault_part_api_Id_vault_part hI mI, S.slices_Collect_api_Id hI mI, S.name_New hI mI, S.name_Ids_All hI mI, trivial⟩) (lkI_mono _) mixed W7.A.vault_Vault_Waits Tryz.func32 rfl (by kernel_rfl) (by kernel_rfl) Tryz.call32 fun args h K hs => ?_
 match args, hs with
 | [a0], hs => exact ⟨Nat.le_of_ble_eq_true (by kernel_rfl), Eq.mp (by kernel_rfl) hs⟩
theorem S.vault_Vault_Over (hI : SoundI Tryz.prog J I) (mI : MonoI I) : SoundF Tryz.prog J 26 (F.vault_Vault_Over ⟨I, kk⟩) := by
 refine SoundF.of_walk (I := lkI [(80, F.name_Ids_Has ⟨I, kk⟩)]) (lkI_sound ⟨S.name_Ids_Has hI mI, trivial⟩) (lkI_mono _) mixed W7.A.vault_Vault_Over Tryz.func26 rfl (by kernel_rfl) (by kernel_rfl) Tryz.call26 fun args h K hs => ?_
 match args, hs with
 | [a0, a1], hs => exact ⟨Nat.le_of_ble_eq_true (by kernel_rfl), Eq.mp (by kernel_rfl) hs⟩
theorem S.estafettelaw14_begun (_ : SoundI Tryz.prog J I) (_ : MonoI I) : SoundF Tryz.prog J 16 (F.estafettelaw14_begun ⟨I, kk⟩) := begun14v
def A.estafettelaw14_few : An := (.s (.s .l))
theorem S.estafettelaw14_few (hI : SoundI Tryz.prog J I) (mI : MonoI I) : SoundF Tryz.prog J 36 (F.estafettelaw14_few ⟨I, kk⟩) := by
 refine SoundF.of_walk (I := lkI []) (lkI_sound trivial) (lkI_mono _) mixed A.estafettelaw14_few Tryz.func36 rfl (by kernel_rfl) (by kernel_rfl) Tryz.call36 fun args h K hs => ?_
 match args, hs with
 | [a0], hs => exact ⟨Nat.le_of_ble_eq_true (by kernel_rfl), Eq.mp (by kernel_rfl) hs⟩
def A.estafettelaw14_table : An := (.s (.s .l))
theorem S.estafettelaw14_table (hI : SoundI Tryz.prog J I) (mI : MonoI I) : SoundF Tryz.prog J 37 (F.estafettelaw14_table ⟨I, kk⟩) := by
 refine SoundF.of_walk (I := lkI []) (lkI_sound trivial) (lkI_mono _) mixed A.estafettelaw14_table Tryz.func37 rfl (by kernel_rfl) (by kernel_rfl) Tryz.call37 fun args h K hs => ?_
 match args, hs with
 | [a0], hs => exact ⟨Nat.le_of_ble_eq_true (by kernel_rfl), Eq.mp (by kernel_rfl) hs⟩
theorem S.space_alike_1 (hI : SoundI Tryz.prog J I) (mI : MonoI I) : SoundF Tryz.prog J 259 (F.space_alike_1 ⟨I, kk⟩) := by
 refine SoundF.of_walk (I := lkI [(35, F.table_Table_Get ⟨I, kk⟩)]) (lkI_sound ⟨S.table_Table_Get hI mI, trivial⟩) (lkI_mono _) mixed W7.A.space_alike_1 Tryz.func259 rfl (by kernel_rfl) (by kernel_rfl) Tryz.call259 fun args h K hs => ?_
 match args, hs with
 | [a0, a1, a2], hs => exact ⟨Nat.le_of_ble_eq_true (by kernel_rfl), Eq.mp (by kernel_rfl) hs⟩
theorem S.space_Space_Eq_1 (hI : SoundI Tryz.prog J I) (mI : MonoI I) : SoundF Tryz.prog J 183 (F.space_Space_Eq_1 ⟨I, kk⟩) := by
 refine SoundF.of_walk (I := lkI [(184, F.topic_Topic_At ⟨I, kk⟩)]) (lkI_sound ⟨S.topic_Topic_At hI mI, trivial⟩) (lkI_mono _) mixed W7.A.space_Space_Eq_1 Tryz.func183 rfl (by kernel_rfl) (by kernel_rfl) Tryz.call183 fun args h K hs => ?_
 match args, hs with
 | [a0, a1, a2], hs => exact ⟨Nat.le_of_ble_eq_true (by kernel_rfl), Eq.mp (by kernel_rfl) hs⟩
end Go.Abs
namespace Go.Abs
open Go Go.Proofs
def Z0 : FE := ⟨fun _ => none, kk⟩
def Z1 : FE := ⟨lkI [(239, F.op_May_1 Z0)], kk⟩
def I14 : FuncId → Option Spec := lkI [(271, F.queue_Queue_Ack_1 Z0), (183, F.space_Space_Eq_1 Z0), (259, F.space_alike_1 Z0), (150, F.op_All_1 Z1), (239, F.op_May_1 Z0), (153, F.lock_Locks_Take_1 Z0), (221, F.lock_order Z0), (174, F.name_order Z0)]
def E14 : FE := ⟨I14, kk⟩
theorem none_s : SoundI Tryz.prog J (fun _ => none) := fun _ _ h => by cases h
theorem none_m : MonoI (fun _ => none) := fun _ _ h => by cases h
theorem Z1_s : SoundI Tryz.prog J Z1.I := lkI_sound ⟨S.op_May_1 none_s none_m, trivial⟩
theorem Z1_m : MonoI Z1.I := lkI_mono _
theorem I14_sound : SoundI Tryz.prog J I14 :=
 lkI_sound ⟨S.queue_Queue_Ack_1 none_s none_m, S.space_Space_Eq_1 none_s none_m, S.space_alike_1 none_s none_m, S.op_All_1 Z1_s Z1_m, S.op_May_1 none_s none_m, S.lock_Locks_Take_1 none_s none_m, S.lock_order none_s none_m, S.name_order none_s none_m, trivial⟩
theorem I14_mono : MonoI I14 := lkI_mono _
theorem ve14 : VlE E14 := ⟨⟨I14_mono, ⟨Z1, rfl, Z1_m, Z0, rfl⟩, ⟨Z0, rfl⟩⟩, ⟨Z0, rfl⟩, ⟨Z0, rfl⟩, ⟨Z0, rfl⟩, ⟨Z0, rfl⟩⟩
end Go.Abs

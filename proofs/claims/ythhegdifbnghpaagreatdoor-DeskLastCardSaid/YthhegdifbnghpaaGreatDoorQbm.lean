/- What is closed in the laws below: estafettelaw8.Begun, estafettelaw12.Begun: the kernel runs them. -/
import Derived.Test.YthhegdifbnghpaaGreatDoorQar
import Derived.Test.YthhegdifbnghpaaGreatDoorQbf
import Derived.Test.YthhegdifbnghpaaGreatDoorQbg
import Derived.Test.YthhegdifbnghpaaGreatDoorQap
import Derived.Test.YthhegdifbnghpaaGreatDoorQbk
import Derived.Test.YthhegdifbnghpaaGreatDoorQas
import Derived.Test.YthhegdifbnghpaaGreatDoorProg
import Derived.Test.YthhegdifbnghpaaGreatDoorQbc
set_option linter.unusedSimpArgs false
set_option linter.unusedVariables false
namespace Go.Abs
open Go Go.Proofs
theorem mixed0 : Tryz.prog.follows .mixedOrders = true := by kernel_rfl
def PU : List (Nat × (List V → AHeap → Ans)) := [(336, stillU fmtB), (337, stillU trimB), (317, cloneU), (154, sortedU [316, 293, 219]), (72, colU [153, 207, 130])]
theorem nI : SoundI Tryz.prog J8 (fun _ => none) := fun _ _ h => by cases h
theorem nM : MonoI (fun _ => none) := fun _ _ h => by cases h
theorem PU_sound : ∀ f g, lkL PU f = some g → SoundF Tryz.prog J8 f (anySpecU g) := by
 refine lkL_ok (p := fun f g => SoundF Tryz.prog J8 f (anySpecU g)) fun x hx => ?_
 simp only [PU, List.mem_cons, List.not_mem_nil, or_false] at hx
 rcases hx with rfl | rfl | rfl | rfl | rfl
 · have e : Tryz.lays173_ren.f 173 = 336 := by kernel_rfl
   have h := fmtB_sound (J := J8) J8_free Tryz.lays173 (by rw [e]; exact Tryz.call336)
   rw [e] at h
   exact stillU_sound h fmtB_still
 · have e : Tryz.lays160_ren.f 160 = 337 := by kernel_rfl
   have h := trimB_sound (J := J8) J8_free Tryz.lays160 (by kernel_rfl) (by rw [e]; exact Tryz.call337)
   rw [e] at h
   exact stillU_sound h trimB_still
 · exact cloneU_sound (S.maps_clone nI nM)
 · refine sortedU_sound (fun g hg => ?_) (S.slices_Sorted_string nI nM)
   simp only [List.mem_cons, List.not_mem_nil, or_false] at hg
   rcases hg with rfl | rfl | rfl
   · exact .inl rfl
   · exact .inr (.inl rfl)
   · exact .inr (.inr rfl)
 · refine colU_sound (fun g hg => ?_) (S.slices_Collect_api_Id nI nM)
   simp only [List.mem_cons, List.not_mem_nil, or_false] at hg
   rcases hg with rfl | rfl | rfl
   · exact .inl rfl
   · exact .inr (.inl rfl)
   · exact .inr (.inr rfl)
set_option maxRecDepth 100000
theorem begun1 : SoundF Tryz.prog J8 239 TrueF := closedU mixed0 PU_sound W7.TB_ok 40 239 (by kernel_rfl)
def P1 := (239, trueU) :: PU
theorem P1_sound : ∀ f g, lkL P1 f = some g → SoundF Tryz.prog J8 f (anySpecU g) := moreU PU_sound begun1
theorem begun8 : SoundF Tryz.prog J8 103 TrueF := closedU mixed0 P1_sound W7.TB_ok 40 103 (by kernel_rfl)
theorem begun7 : SoundF Tryz.prog J8 240 TrueF := closedU mixed0 P1_sound W7.TB_ok 40 240 (by kernel_rfl)
def P7 := (240, trueU) :: P1
theorem P7_sound : ∀ f g, lkL P7 f = some g → SoundF Tryz.prog J8 f (anySpecU g) := moreU P1_sound begun7
theorem begun12 : SoundF Tryz.prog J8 104 TrueF := closedU mixed0 P7_sound W7.TB_ok 40 104 (by kernel_rfl)
end Go.Abs
set_option maxRecDepth 100000
namespace Go.Abs
open Go Go.Proofs
def PV : List (Nat × (List V → AHeap → Ans)) := (103, trueU) :: (104, trueU) :: P7
theorem PV_sound : ∀ f g, lkL PV f = some g → SoundF Tryz.prog J8 f (anySpecU g) := moreU (moreU P7_sound begun12) begun8
theorem begun14v : SoundF Tryz.prog J8 47 TrueF := closedU mixed0 PV_sound W7.TB_ok 60 47 (by kernel_rfl)
def PX : List (Nat × (List V → AHeap → Ans)) := (47, trueU) :: PV
theorem PX_sound : ∀ f g, lkL PX f = some g → SoundF Tryz.prog J8 f (anySpecU g) := moreU PV_sound begun14v
theorem begun15v : SoundF Tryz.prog J8 14 TrueF := closedU mixed0 PX_sound W7.TB_ok 60 14 (by kernel_rfl)
end Go.Abs
set_option maxRecDepth 20000
namespace Go.Abs
open Go Go.Proofs
abbrev J : World → Prop := J8
variable {I : FuncId → Option Spec}
theorem mixed : Tryz.prog.follows .mixedOrders = true := by kernel_rfl
theorem S.desk_New (hI : SoundI Tryz.prog J I) (mI : MonoI I) : SoundF Tryz.prog J 15 (F.desk_New ⟨I, kk⟩) := by
 refine SoundF.of_walk (I := lkI []) (lkI_sound trivial) (lkI_mono _) mixed W7.A.desk_New Tryz.func15 rfl (by kernel_rfl) (by kernel_rfl) Tryz.call15 fun args h K hs => ?_
 match args, hs with
 | [a0], hs => exact ⟨Nat.le_of_ble_eq_true (by kernel_rfl), Eq.mp (by kernel_rfl) hs⟩
theorem S.op_Client (hI : SoundI Tryz.prog J I) (mI : MonoI I) : SoundF Tryz.prog J 63 (F.op_Client ⟨I, kk⟩) := by
 refine SoundF.of_walk (I := lkI []) (lkI_sound trivial) (lkI_mono _) mixed W7.A.op_Client Tryz.func63 rfl (by kernel_rfl) (by kernel_rfl) Tryz.call63 fun args h K hs => ?_
 match args, hs with
 | [a0], hs => exact ⟨Nat.le_of_ble_eq_true (by kernel_rfl), Eq.mp (by kernel_rfl) hs⟩
theorem S.slices_IndexFunc_Sapi_Op_api_Op (hI : SoundI Tryz.prog J I) (mI : MonoI I) : SoundF Tryz.prog J 200 (F.slices_IndexFunc_Sapi_Op_api_Op ⟨I, kk⟩) := by
 refine SoundF.of_walk (I := I) hI mI mixed W7.A.slices_IndexFunc_Sapi_Op_api_Op Tryz.func200 rfl (by kernel_rfl) (by kernel_rfl) Tryz.call200 fun args h K hs => ?_
 match args, hs with
 | [a0, a1], hs => exact ⟨Nat.le_of_ble_eq_true (by kernel_rfl), Eq.mp (by kernel_rfl) hs⟩
theorem S.slices_ContainsFunc_Sapi_Op_api_Op (hI : SoundI Tryz.prog J I) (mI : MonoI I) : SoundF Tryz.prog J 125 (F.slices_ContainsFunc_Sapi_Op_api_Op ⟨I, kk⟩) := by
 refine SoundF.of_walk (I := lkI [(200, F.slices_IndexFunc_Sapi_Op_api_Op ⟨I, kk⟩)]) (lkI_sound ⟨S.slices_IndexFunc_Sapi_Op_api_Op hI mI, trivial⟩) (lkI_mono _) mixed W7.A.slices_ContainsFunc_Sapi_Op_api_Op Tryz.func125 rfl (by kernel_rfl) (by kernel_rfl) Tryz.call125 fun args h K hs => ?_
 match args, hs with
 | [a0, a1], hs => exact ⟨Nat.le_of_ble_eq_true (by kernel_rfl), Eq.mp (by kernel_rfl) hs⟩
theorem S.op_names (hI : SoundI Tryz.prog J I) (mI : MonoI I) : SoundF Tryz.prog J 201 (F.op_names ⟨I, kk⟩) := by
 refine SoundF.of_walk (I := lkI []) (lkI_sound trivial) (lkI_mono _) mixed W7.A.op_names Tryz.func201 rfl (by kernel_rfl) (by kernel_rfl) Tryz.call201 fun args h K hs => ?_
 match args, hs with
 | [a0], hs => exact ⟨Nat.le_of_ble_eq_true (by kernel_rfl), Eq.mp (by kernel_rfl) hs⟩
theorem S.strings_indexFunc (hI : SoundI Tryz.prog J I) (mI : MonoI I) : SoundF Tryz.prog J 295 (F.strings_indexFunc ⟨I, kk⟩) := by
 refine SoundF.of_walk (I := I) hI mI mixed W7.A.strings_indexFunc Tryz.func295 rfl (by kernel_rfl) (by kernel_rfl) Tryz.call295 fun args h K hs => ?_
 match args, hs with
 | [a0, a1, a2], hs => exact ⟨Nat.le_of_ble_eq_true (by kernel_rfl), Eq.mp (by kernel_rfl) hs⟩
theorem S.strings_IndexFunc (hI : SoundI Tryz.prog J I) (mI : MonoI I) : SoundF Tryz.prog J 268 (F.strings_IndexFunc ⟨I, kk⟩) := by
 refine SoundF.of_walk (I := lkI [(295, F.strings_indexFunc ⟨I, kk⟩)]) (lkI_sound ⟨S.strings_indexFunc hI mI, trivial⟩) (lkI_mono _) mixed W7.A.strings_IndexFunc Tryz.func268 rfl (by kernel_rfl) (by kernel_rfl) Tryz.call268 fun args h K hs => ?_
 match args, hs with
 | [a0, a1], hs => exact ⟨Nat.le_of_ble_eq_true (by kernel_rfl), Eq.mp (by kernel_rfl) hs⟩
theorem S.strings_ContainsFunc (hI : SoundI Tryz.prog J I) (mI : MonoI I) : SoundF Tryz.prog J 203 (F.strings_ContainsFunc ⟨I, kk⟩) := by
 refine SoundF.of_walk (I := lkI [(268, F.strings_IndexFunc ⟨I, kk⟩)]) (lkI_sound ⟨S.strings_IndexFunc hI mI, trivial⟩) (lkI_mono _) mixed W7.A.strings_ContainsFunc Tryz.func203 rfl (by kernel_rfl) (by kernel_rfl) Tryz.call203 fun args h K hs => ?_
 match args, hs with
 | [a0, a1], hs => exact ⟨Nat.le_of_ble_eq_true (by kernel_rfl), Eq.mp (by kernel_rfl) hs⟩
theorem S.op_makes (hI : SoundI Tryz.prog J I) (mI : MonoI I) : SoundF Tryz.prog J 204 (F.op_makes ⟨I, kk⟩) := by
 refine SoundF.of_walk (I := lkI []) (lkI_sound trivial) (lkI_mono _) mixed W7.A.op_makes Tryz.func204 rfl (by kernel_rfl) (by kernel_rfl) Tryz.call204 fun args h K hs => ?_
 match args, hs with
 | [a0], hs => exact ⟨Nat.le_of_ble_eq_true (by kernel_rfl), Eq.mp (by kernel_rfl) hs⟩
theorem S.op_May_1 (hI : SoundI Tryz.prog J I) (mI : MonoI I) : SoundF Tryz.prog J 202 (F.op_May_1 ⟨I, kk⟩) := by
 refine SoundF.of_walk (I := lkI []) (lkI_sound trivial) (lkI_mono _) mixed W7.A.op_May_1 Tryz.func202 rfl (by kernel_rfl) (by kernel_rfl) Tryz.call202 fun args h K hs => ?_
 match args, hs with
 | [a0], hs => exact ⟨Nat.le_of_ble_eq_true (by kernel_rfl), Eq.mp (by kernel_rfl) hs⟩
theorem S.op_May (hI : SoundI Tryz.prog J I) (mI : MonoI I) : SoundF Tryz.prog J 127 (F.op_May ⟨I, kk⟩) := by
 refine SoundF.of_walk (I := lkI [(201, F.op_names ⟨I, kk⟩), (203, F.strings_ContainsFunc ⟨I, kk⟩), (204, F.op_makes ⟨I, kk⟩)]) (lkI_sound ⟨S.op_names hI mI, S.strings_ContainsFunc hI mI, S.op_makes hI mI, trivial⟩) (lkI_mono _) mixed W7.A.op_May Tryz.func127 rfl (by kernel_rfl) (by kernel_rfl) Tryz.call127 fun args h K hs => ?_
 match args, hs with
 | [a0], hs => exact ⟨Nat.le_of_ble_eq_true (by kernel_rfl), Eq.mp (by kernel_rfl) hs⟩
theorem S.op_All_1 (hI : SoundI Tryz.prog J I) (mI : MonoI I) : SoundF Tryz.prog J 126 (F.op_All_1 ⟨I, kk⟩) := by
 refine SoundF.of_walk (I := lkI [(127, F.op_May ⟨I, kk⟩)]) (lkI_sound ⟨S.op_May hI mI, trivial⟩) (lkI_mono _) mixed W7.A.op_All_1 Tryz.func126 rfl (by kernel_rfl) (by kernel_rfl) Tryz.call126 fun args h K hs => ?_
 match args, hs with
 | [a0], hs => exact ⟨Nat.le_of_ble_eq_true (by kernel_rfl), Eq.mp (by kernel_rfl) hs⟩
theorem S.op_All (hI : SoundI Tryz.prog J I) (mI : MonoI I) : SoundF Tryz.prog J 64 (F.op_All ⟨I, kk⟩) := by
 refine SoundF.of_walk (I := lkI [(125, F.slices_ContainsFunc_Sapi_Op_api_Op ⟨I, kk⟩)]) (lkI_sound ⟨S.slices_ContainsFunc_Sapi_Op_api_Op hI mI, trivial⟩) (lkI_mono _) mixed W7.A.op_All Tryz.func64 rfl (by kernel_rfl) (by kernel_rfl) Tryz.call64 fun args h K hs => ?_
 match args, hs with
 | [a0], hs => exact ⟨Nat.le_of_ble_eq_true (by kernel_rfl), Eq.mp (by kernel_rfl) hs⟩
theorem S.slices_Clone_Sapi_Op_api_Op (hI : SoundI Tryz.prog J I) (mI : MonoI I) : SoundF Tryz.prog J 65 (F.slices_Clone_Sapi_Op_api_Op ⟨I, kk⟩) := by
 refine SoundF.of_walk (I := lkI []) (lkI_sound trivial) (lkI_mono _) mixed W7.A.slices_Clone_Sapi_Op_api_Op Tryz.func65 rfl (by kernel_rfl) (by kernel_rfl) Tryz.call65 fun args h K hs => ?_
 match args, hs with
 | [a0], hs => exact ⟨Nat.le_of_ble_eq_true (by kernel_rfl), Eq.mp (by kernel_rfl) hs⟩
theorem S.mark_Add (hI : SoundI Tryz.prog J I) (mI : MonoI I) : SoundF Tryz.prog J 296 (F.mark_Add ⟨I, kk⟩) := by
 refine SoundF.of_walk (I := lkI []) (lkI_sound trivial) (lkI_mono _) mixed W7.A.mark_Add Tryz.func296 rfl (by kernel_rfl) (by kernel_rfl) Tryz.call296 fun args h K hs => ?_
 match args, hs with
 | [a0, a1], hs => exact ⟨Nat.le_of_ble_eq_true (by kernel_rfl), Eq.mp (by kernel_rfl) hs⟩
theorem S.mark_Of (hI : SoundI Tryz.prog J I) (mI : MonoI I) : SoundF Tryz.prog J 269 (F.mark_Of ⟨I, kk⟩) := by
 refine SoundF.of_walk (I := lkI [(296, F.mark_Add ⟨I, kk⟩)]) (lkI_sound ⟨S.mark_Add hI mI, trivial⟩) (lkI_mono _) mixed W7.A.mark_Of Tryz.func269 rfl (by kernel_rfl) (by kernel_rfl) Tryz.call269 fun args h K hs => ?_
 match args, hs with
 | [a0], hs => exact ⟨Nat.le_of_ble_eq_true (by kernel_rfl), Eq.mp (by kernel_rfl) hs⟩
theorem S.mark_Shards (hI : SoundI Tryz.prog J I) (mI : MonoI I) : SoundF Tryz.prog J 205 (F.mark_Shards ⟨I, kk⟩) := by
 refine SoundF.of_walk (I := lkI [(269, F.mark_Of ⟨I, kk⟩)]) (lkI_sound ⟨S.mark_Of hI mI, trivial⟩) (lkI_mono _) mixed W7.A.mark_Shards Tryz.func205 rfl (by kernel_rfl) (by kernel_rfl) Tryz.call205 fun args h K hs => ?_
 match args, hs with
 | [a0, a1], hs => exact ⟨Nat.le_of_ble_eq_true (by kernel_rfl), Eq.mp (by kernel_rfl) hs⟩
theorem S.name_Shard (hI : SoundI Tryz.prog J I) (mI : MonoI I) : SoundF Tryz.prog J 128 (F.name_Shard ⟨I, kk⟩) := by
 refine SoundF.of_walk (I := lkI [(205, F.mark_Shards ⟨I, kk⟩)]) (lkI_sound ⟨S.mark_Shards hI mI, trivial⟩) (lkI_mono _) mixed W7.A.name_Shard Tryz.func128 rfl (by kernel_rfl) (by kernel_rfl) Tryz.call128 fun args h K hs => ?_
 match args, hs with
 | [a0, a1], hs => exact ⟨Nat.le_of_ble_eq_true (by kernel_rfl), Eq.mp (by kernel_rfl) hs⟩
theorem S.op_Parts (hI : SoundI Tryz.prog J I) (mI : MonoI I) : SoundF Tryz.prog J 66 (F.op_Parts ⟨I, kk⟩) := by
 refine SoundF.of_walk (I := lkI [(128, F.name_Shard ⟨I, kk⟩)]) (lkI_sound ⟨S.name_Shard hI mI, trivial⟩) (lkI_mono _) mixed W7.A.op_Parts Tryz.func66 rfl (by kernel_rfl) (by kernel_rfl) Tryz.call66 fun args h K hs => ?_
 match args, hs with
 | [a0, a1], hs => exact ⟨Nat.le_of_ble_eq_true (by kernel_rfl), Eq.mp (by kernel_rfl) hs⟩
theorem S.desk_Desk_Begin (hI : SoundI Tryz.prog J I) (mI : MonoI I) : SoundF Tryz.prog J 16 (F.desk_Desk_Begin ⟨I, kk⟩) := by
 refine SoundF.of_walk (I := lkI [(63, F.op_Client ⟨I, kk⟩), (64, F.op_All ⟨I, kk⟩), (65, F.slices_Clone_Sapi_Op_api_Op ⟨I, kk⟩), (66, F.op_Parts ⟨I, kk⟩)]) (lkI_sound ⟨S.op_Client hI mI, S.op_All hI mI, S.slices_Clone_Sapi_Op_api_Op hI mI, S.op_Parts hI mI, trivial⟩) (lkI_mono _) mixed W7.A.desk_Desk_Begin Tryz.func16 rfl (by kernel_rfl) (by kernel_rfl) Tryz.call16 fun args h K hs => ?_
 match args, hs with
 | [a0, a1, a2], hs => exact ⟨Nat.le_of_ble_eq_true (by kernel_rfl), Eq.mp (by kernel_rfl) hs⟩
theorem S.maps_Keys_map_api_Id_desk_trans_api_Id_desk_trans (hI : SoundI Tryz.prog J I) (mI : MonoI I) : SoundF Tryz.prog J 73 (F.maps_Keys_map_api_Id_desk_trans_api_Id_desk_trans ⟨I, kk⟩) := by
 refine SoundF.of_walk (I := lkI []) (lkI_sound trivial) (lkI_mono _) mixed W7.A.maps_Keys_map_api_Id_desk_trans_api_Id_desk_trans Tryz.func73 rfl (by kernel_rfl) (by kernel_rfl) Tryz.call73 fun args h K hs => ?_
 match args, hs with
 | [a0], hs => exact ⟨Nat.le_of_ble_eq_true (by kernel_rfl), Eq.mp (by kernel_rfl) hs⟩
theorem S.name_New (hI : SoundI Tryz.prog J I) (mI : MonoI I) : SoundF Tryz.prog J 71 (F.name_New ⟨I, kk⟩) := by
 refine SoundF.of_walk (I := lkI []) (lkI_sound trivial) (lkI_mono _) mixed W7.A.name_New Tryz.func71 rfl (by kernel_rfl) (by kernel_rfl) Tryz.call71 fun args h K hs => ?_
 match args, hs with
 | [a0], hs => exact ⟨Nat.le_of_ble_eq_true (by kernel_rfl), Eq.mp (by kernel_rfl) hs⟩
theorem S.maps_Keys_map_api_Id_bool_api_Id_bool (hI : SoundI Tryz.prog J I) (mI : MonoI I) : SoundF Tryz.prog J 132 (F.maps_Keys_map_api_Id_bool_api_Id_bool ⟨I, kk⟩) := by
 refine SoundF.of_walk (I := lkI []) (lkI_sound trivial) (lkI_mono _) mixed W7.A.maps_Keys_map_api_Id_bool_api_Id_bool Tryz.func132 rfl (by kernel_rfl) (by kernel_rfl) Tryz.call132 fun args h K hs => ?_
 match args, hs with
 | [a0], hs => exact ⟨Nat.le_of_ble_eq_true (by kernel_rfl), Eq.mp (by kernel_rfl) hs⟩
theorem S.math_bits_Len32 (hI : SoundI Tryz.prog J I) (mI : MonoI I) : SoundF Tryz.prog J 305 (F.math_bits_Len32 ⟨I, kk⟩) := by
 refine SoundF.of_walk (I := lkI []) (lkI_sound trivial) (lkI_mono _) mixed W7.A.math_bits_Len32 Tryz.func305 rfl (by kernel_rfl) (by kernel_rfl) Tryz.call305 fun args h K hs => ?_
 match args, hs with
 | [a0], hs => exact ⟨Nat.le_of_ble_eq_true (by kernel_rfl), Eq.mp (by kernel_rfl) hs⟩
theorem S.math_bits_Len64 (hI : SoundI Tryz.prog J I) (mI : MonoI I) : SoundF Tryz.prog J 306 (F.math_bits_Len64 ⟨I, kk⟩) := by
 refine SoundF.of_walk (I := lkI []) (lkI_sound trivial) (lkI_mono _) mixed W7.A.math_bits_Len64 Tryz.func306 rfl (by kernel_rfl) (by kernel_rfl) Tryz.call306 fun args h K hs => ?_
 match args, hs with
 | [a0], hs => exact ⟨Nat.le_of_ble_eq_true (by kernel_rfl), Eq.mp (by kernel_rfl) hs⟩
theorem S.math_bits_Len (hI : SoundI Tryz.prog J I) (mI : MonoI I) : SoundF Tryz.prog J 271 (F.math_bits_Len ⟨I, kk⟩) := by
 refine SoundF.of_walk (I := lkI [(305, F.math_bits_Len32 ⟨I, kk⟩), (306, F.math_bits_Len64 ⟨I, kk⟩)]) (lkI_sound ⟨S.math_bits_Len32 hI mI, S.math_bits_Len64 hI mI, trivial⟩) (lkI_mono _) mixed W7.A.math_bits_Len Tryz.func271 rfl (by kernel_rfl) (by kernel_rfl) Tryz.call271 fun args h K hs => ?_
 match args, hs with
 | [a0], hs => exact ⟨Nat.le_of_ble_eq_true (by kernel_rfl), Eq.mp (by kernel_rfl) hs⟩
theorem S.slices_insertionSortCmpFunc_api_Id (hI : SoundI Tryz.prog J I) (mI : MonoI I) : SoundF Tryz.prog J 297 (F.slices_insertionSortCmpFunc_api_Id ⟨I, kk⟩) := by
 refine SoundF.of_walk (I := I) hI mI mixed W7.A.slices_insertionSortCmpFunc_api_Id Tryz.func297 rfl (by kernel_rfl) (by kernel_rfl) Tryz.call297 fun args h K hs => ?_
 match args, hs with
 | [a0, a1, a2, a3], hs => exact ⟨Nat.le_of_ble_eq_true (by kernel_rfl), Eq.mp (by kernel_rfl) hs⟩
theorem Sr.slices_pdqsortCmpFunc_api_Id (hI : SoundI Tryz.prog J I) (mI : MonoI I) : ∀ fuel, SoundF Tryz.prog J 270 (Fr.slices_pdqsortCmpFunc_api_Id fuel ⟨I, kk⟩)
 | 0 => SoundF.no
 | fuel + 1 => by
  refine SoundF.of_walk (I := lkI [(297, F.slices_insertionSortCmpFunc_api_Id ⟨I, kk⟩), (270, Fr.slices_pdqsortCmpFunc_api_Id fuel ⟨I, kk⟩)]) (lkI_sound ⟨S.slices_insertionSortCmpFunc_api_Id hI mI, Sr.slices_pdqsortCmpFunc_api_Id hI mI fuel, trivial⟩) (lkI_mono _) mixed W7.A.slices_pdqsortCmpFunc_api_Id Tryz.func270 rfl (by kernel_rfl) (by kernel_rfl) Tryz.call270 fun args h K hs => ?_
  match args, hs with
  | [a0, a1, a2, a3, a4], hs => exact ⟨Nat.le_of_ble_eq_true (by kernel_rfl), Eq.mp (by kernel_rfl) hs⟩
theorem S.slices_pdqsortCmpFunc_api_Id (hI : SoundI Tryz.prog J I) (mI : MonoI I) : SoundF Tryz.prog J 270 (F.slices_pdqsortCmpFunc_api_Id ⟨I, kk⟩) := SoundF.ex (Sr.slices_pdqsortCmpFunc_api_Id hI mI)
theorem S.slices_SortFunc_Sapi_Id_api_Id (hI : SoundI Tryz.prog J I) (mI : MonoI I) : SoundF Tryz.prog J 206 (F.slices_SortFunc_Sapi_Id_api_Id ⟨I, kk⟩) := by
 refine SoundF.of_walk (I := lkI [(271, F.math_bits_Len ⟨I, kk⟩), (270, F.slices_pdqsortCmpFunc_api_Id ⟨I, kk⟩)]) (lkI_sound ⟨S.math_bits_Len hI mI, S.slices_pdqsortCmpFunc_api_Id hI mI, trivial⟩) (lkI_mono _) mixed W7.A.slices_SortFunc_Sapi_Id_api_Id Tryz.func206 rfl (by kernel_rfl) (by kernel_rfl) Tryz.call206 fun args h K hs => ?_
 match args, hs with
 | [a0, a1], hs => exact ⟨Nat.le_of_ble_eq_true (by kernel_rfl), Eq.mp (by kernel_rfl) hs⟩
theorem S.slices_SortedFunc_api_Id (hI : SoundI Tryz.prog J I) (mI : MonoI I) : SoundF Tryz.prog J 131 (F.slices_SortedFunc_api_Id ⟨I, kk⟩) := by
 refine SoundF.of_walk (I := lkI [(72, F.slices_Collect_api_Id ⟨I, kk⟩), (206, F.slices_SortFunc_Sapi_Id_api_Id ⟨I, kk⟩)]) (lkI_sound ⟨S.slices_Collect_api_Id hI mI, S.slices_SortFunc_Sapi_Id_api_Id hI mI, trivial⟩) (lkI_mono _) mixed W7.A.slices_SortedFunc_api_Id Tryz.func131 rfl (by kernel_rfl) (by kernel_rfl) Tryz.call131 fun args h K hs => ?_
 match args, hs with
 | [a0, a1], hs => exact ⟨Nat.le_of_ble_eq_true (by kernel_rfl), Eq.mp (by kernel_rfl) hs⟩
theorem S.name_Ids_All (hI : SoundI Tryz.prog J I) (mI : MonoI I) : SoundF Tryz.prog J 74 (F.name_Ids_All ⟨I, kk⟩) := by
 refine SoundF.of_walk (I := lkI [(132, F.maps_Keys_map_api_Id_bool_api_Id_bool ⟨I, kk⟩), (131, F.slices_SortedFunc_api_Id ⟨I, kk⟩)]) (lkI_sound ⟨S.maps_Keys_map_api_Id_bool_api_Id_bool hI mI, S.slices_SortedFunc_api_Id hI mI, trivial⟩) (lkI_mono _) mixed W7.A.name_Ids_All Tryz.func74 rfl (by kernel_rfl) (by kernel_rfl) Tryz.call74 fun args h K hs => ?_
 match args, hs with
 | [a0], hs => exact ⟨Nat.le_of_ble_eq_true (by kernel_rfl), Eq.mp (by kernel_rfl) hs⟩
theorem S.desk_Desk_Open (hI : SoundI Tryz.prog J I) (mI : MonoI I) : SoundF Tryz.prog J 20 (F.desk_Desk_Open ⟨I, kk⟩) := by
 refine SoundF.of_walk (I := lkI [(73, F.maps_Keys_map_api_Id_desk_trans_api_Id_desk_trans ⟨I, kk⟩), (72, F.slices_Collect_api_Id ⟨I, kk⟩), (71, F.name_New ⟨I, kk⟩), (74, F.name_Ids_All ⟨I, kk⟩)]) (lkI_sound ⟨S.maps_Keys_map_api_Id_desk_trans_api_Id_desk_trans hI mI, S.slices_Collect_api_Id hI mI, S.name_New hI mI, S.name_Ids_All hI mI, trivial⟩) (lkI_mono _) mixed W7.A.desk_Desk_Open Tryz.func20 rfl (by kernel_rfl) (by kernel_rfl) Tryz.call20 fun args h K hs => ?_
 match args, hs with
 | [a0], hs => exact ⟨Nat.le_of_ble_eq_true (by kernel_rfl), Eq.mp (by kernel_rfl) hs⟩
theorem S.desk_trans_has (hI : SoundI Tryz.prog J I) (mI : MonoI I) : SoundF Tryz.prog J 67 (F.desk_trans_has ⟨I, kk⟩) := by
 refine SoundF.of_walk (I := lkI []) (lkI_sound trivial) (lkI_mono _) mixed W7.A.desk_trans_has Tryz.func67 rfl (by kernel_rfl) (by kernel_rfl) Tryz.call67 fun args h K hs => ?_
 match args, hs with
 | [a0, a1], hs => exact ⟨Nat.le_of_ble_eq_true (by kernel_rfl), Eq.mp (by kernel_rfl) hs⟩
theorem S.desk_trans_shards (hI : SoundI Tryz.prog J I) (mI : MonoI I) : SoundF Tryz.prog J 69 (F.desk_trans_shards ⟨I, kk⟩) := by
 refine SoundF.of_walk (I := lkI [(67, F.desk_trans_has ⟨I, kk⟩)]) (lkI_sound ⟨S.desk_trans_has hI mI, trivial⟩) (lkI_mono _) mixed W7.A.desk_trans_shards Tryz.func69 rfl (by kernel_rfl) (by kernel_rfl) Tryz.call69 fun args h K hs => ?_
 match args, hs with
 | [a0], hs => exact ⟨Nat.le_of_ble_eq_true (by kernel_rfl), Eq.mp (by kernel_rfl) hs⟩
theorem S.op_bit (hI : SoundI Tryz.prog J I) (mI : MonoI I) : SoundF Tryz.prog J 211 (F.op_bit ⟨I, kk⟩) := by
 refine SoundF.of_walk (I := lkI []) (lkI_sound trivial) (lkI_mono _) mixed W7.A.op_bit Tryz.func211 rfl (by kernel_rfl) (by kernel_rfl) Tryz.call211 fun args h K hs => ?_
 match args, hs with
 | [a0], hs => exact ⟨Nat.le_of_ble_eq_true (by kernel_rfl), Eq.mp (by kernel_rfl) hs⟩
theorem S.op_Word (hI : SoundI Tryz.prog J I) (mI : MonoI I) : SoundF Tryz.prog J 134 (F.op_Word ⟨I, kk⟩) := by
 refine SoundF.of_walk (I := lkI [(63, F.op_Client ⟨I, kk⟩), (211, F.op_bit ⟨I, kk⟩)]) (lkI_sound ⟨S.op_Client hI mI, S.op_bit hI mI, trivial⟩) (lkI_mono _) mixed W7.A.op_Word Tryz.func134 rfl (by kernel_rfl) (by kernel_rfl) Tryz.call134 fun args h K hs => ?_
 match args, hs with
 | [a0, a1, a2, a3], hs => exact ⟨Nat.le_of_ble_eq_true (by kernel_rfl), Eq.mp (by kernel_rfl) hs⟩
theorem S.op_Of (hI : SoundI Tryz.prog J I) (mI : MonoI I) : SoundF Tryz.prog J 136 (F.op_Of ⟨I, kk⟩) := by
 refine SoundF.of_walk (I := lkI [(66, F.op_Parts ⟨I, kk⟩)]) (lkI_sound ⟨S.op_Parts hI mI, trivial⟩) (lkI_mono _) mixed W7.A.op_Of Tryz.func136 rfl (by kernel_rfl) (by kernel_rfl) Tryz.call136 fun args h K hs => ?_
 match args, hs with
 | [a0, a1, a2], hs => exact ⟨Nat.le_of_ble_eq_true (by kernel_rfl), Eq.mp (by kernel_rfl) hs⟩
theorem S.op_Put (hI : SoundI Tryz.prog J I) (mI : MonoI I) : SoundF Tryz.prog J 135 (F.op_Put ⟨I, kk⟩) := by
 refine SoundF.of_walk (I := lkI [(63, F.op_Client ⟨I, kk⟩), (64, F.op_All ⟨I, kk⟩)]) (lkI_sound ⟨S.op_Client hI mI, S.op_All hI mI, trivial⟩) (lkI_mono _) mixed W7.A.op_Put Tryz.func135 rfl (by kernel_rfl) (by kernel_rfl) Tryz.call135 fun args h K hs => ?_
 match args, hs with
 | [a0, a1, a2], hs => exact ⟨Nat.le_of_ble_eq_true (by kernel_rfl), Eq.mp (by kernel_rfl) hs⟩
theorem S.desk_Desk_wants (hI : SoundI Tryz.prog J I) (mI : MonoI I) : SoundF Tryz.prog J 75 (F.desk_Desk_wants ⟨I, kk⟩) := by
 refine SoundF.of_walk (I := lkI [(69, F.desk_trans_shards ⟨I, kk⟩), (134, F.op_Word ⟨I, kk⟩), (136, F.op_Of ⟨I, kk⟩), (135, F.op_Put ⟨I, kk⟩)]) (lkI_sound ⟨S.desk_trans_shards hI mI, S.op_Word hI mI, S.op_Of hI mI, S.op_Put hI mI, trivial⟩) (lkI_mono _) mixed W7.A.desk_Desk_wants Tryz.func75 rfl (by kernel_rfl) (by kernel_rfl) Tryz.call75 fun args h K hs => ?_
 match args, hs with
 | [a0, a1, a2], hs => exact ⟨Nat.le_of_ble_eq_true (by kernel_rfl), Eq.mp (by kernel_rfl) hs⟩
theorem S.desk_Desk_Wants (hI : SoundI Tryz.prog J I) (mI : MonoI I) : SoundF Tryz.prog J 21 (F.desk_Desk_Wants ⟨I, kk⟩) := by
 refine SoundF.of_walk (I := lkI [(20, F.desk_Desk_Open ⟨I, kk⟩), (75, F.desk_Desk_wants ⟨I, kk⟩)]) (lkI_sound ⟨S.desk_Desk_Open hI mI, S.desk_Desk_wants hI mI, trivial⟩) (lkI_mono _) mixed W7.A.desk_Desk_Wants Tryz.func21 rfl (by kernel_rfl) (by kernel_rfl) Tryz.call21 fun args h K hs => ?_
 match args, hs with
 | [a0], hs => exact ⟨Nat.le_of_ble_eq_true (by kernel_rfl), Eq.mp (by kernel_rfl) hs⟩
theorem S.slices_Clone_Sstring_string (hI : SoundI Tryz.prog J I) (mI : MonoI I) : SoundF Tryz.prog J 68 (F.slices_Clone_Sstring_string ⟨I, kk⟩) := by
 refine SoundF.of_walk (I := lkI []) (lkI_sound trivial) (lkI_mono _) mixed W7.A.slices_Clone_Sstring_string Tryz.func68 rfl (by kernel_rfl) (by kernel_rfl) Tryz.call68 fun args h K hs => ?_
 match args, hs with
 | [a0], hs => exact ⟨Nat.le_of_ble_eq_true (by kernel_rfl), Eq.mp (by kernel_rfl) hs⟩
def A.desk_Desk_keep : An := (.s (.s (.seq (.s (.join 75557863725914323158912 [] (.cond (.seq (.join 34359476224 [] (.draw #[0, 0, 2, 6, 14, 30, 62, 0, 128, 384, 896, 1920, 3968, 0, 8192, 24702, 57470, 131071, 262143, 524287] (.qs [0, 1, 2, 3, 4, 5, 7, 8, 9, 10, 11, 13] (.fork (.fork (.c 6 [10] (.fork (.c 12 [4] (.c 14 [4, 10] (.q 15 (.c 16 [10] (.q 17 (.q 18 (.c 19 [] .done))))))) (.c 14 [4, 10] (.q 15 (.fork (.c 12 [4] (.c 16 [10] (.q 17 (.q 18 (.c 19 [] .done))))) (.c 16 [10] (.c 12 [4] (.q 17 (.q 18 (.c 19 [] .done)))))))))) (.c 12 [4] (.fork (.c 6 [10] (.c 14 [4, 10] (.q 15 (.c 16 [10] (.q 17 (.q 18 (.c 19 [] .done))))))) (.c 14 [4, 10] (.c 6 [10] (.q 15 (.c 16 [10] (.q 17 (.q 18 (.c 19 [] .done)))))))))) (.c 14 [4, 10] (.fork (.c 6 [10] (.q 15 (.fork (.c 12 [4] (.c 16 [10] (.q 17 (.q 18 (.c 19 [] .done))))) (.c 16 [10] (.c 12 [4] (.q 17 (.q 18 (.c 19 [] .done)))))))) (.c 12 [4] (.c 6 [10] (.q 15 (.c 16 [10] (.q 17 (.q 18 (.c 19 [] .done))))))))))))) (.s (.block (.loop 75557863724814811793280 [] (.s (.seq (.cond .l .l) (.block (.s (.s (.block (.loop 75557854718715068679680 [53] (.s (.seq (.cond .l .l) (.seq (.block (.s (.draw #[0, 1, 0, 0, 8, 24, 56, 0, 0, 256, 0, 1792, 3840, 0, 8192, 8063, 40831, 131071, 262143] (.qs [0, 1, 2, 3, 4, 5, 6, 7, 8, 9, 10, 11, 12, 13, 14, 15] (.c 16 [14] (.q 17 (.c 18 [] .done))))))) .l)))))))))))))) .l))) (.seq (.draw #[0, 1, 3, 7, 0, 16, 63, 0, 128, 511, 1023] (.qs [0, 1, 2, 3, 4, 5, 6, 7] (.c 8 [3, 5, 6] (.c 9 [] (.q 10 .done))))) (.draw #[0, 1, 3, 7, 0, 16, 0, 0, 128, 384, 896, 1984, 4095] (.qs [0, 1, 2, 3, 4, 5, 6, 7, 8, 9, 10, 11] (.c 12 [] .done)))))))
theorem S.desk_Desk_keep (hI : SoundI Tryz.prog J I) (mI : MonoI I) : SoundF Tryz.prog J 70 (F.desk_Desk_keep ⟨I, kk⟩) := by
 refine SoundF.of_walk (I := lkI []) (lkI_sound trivial) (lkI_mono _) mixed A.desk_Desk_keep Tryz.func70 rfl (by kernel_rfl) (by kernel_rfl) Tryz.call70 fun args h K hs => ?_
 match args, hs with
 | [a0, a1, a2], hs => exact ⟨Nat.le_of_ble_eq_true (by kernel_rfl), Eq.mp (by kernel_rfl) hs⟩
theorem S.desk_Desk_Vote (hI : SoundI Tryz.prog J I) (mI : MonoI I) : SoundF Tryz.prog J 17 (F.desk_Desk_Vote ⟨I, kk⟩) := by
 refine SoundF.of_walk (I := lkI [(67, F.desk_trans_has ⟨I, kk⟩), (68, F.slices_Clone_Sstring_string ⟨I, kk⟩), (69, F.desk_trans_shards ⟨I, kk⟩), (70, F.desk_Desk_keep ⟨I, kk⟩)]) (lkI_sound ⟨S.desk_trans_has hI mI, S.slices_Clone_Sstring_string hI mI, S.desk_trans_shards hI mI, S.desk_Desk_keep hI mI, trivial⟩) (lkI_mono _) mixed W7.A.desk_Desk_Vote Tryz.func17 rfl (by kernel_rfl) (by kernel_rfl) Tryz.call17 fun args h K hs => ?_
 match args, hs with
 | [a0, a1], hs => exact ⟨Nat.le_of_ble_eq_true (by kernel_rfl), Eq.mp (by kernel_rfl) hs⟩
theorem S.desk_Desk_Answer (hI : SoundI Tryz.prog J I) (mI : MonoI I) : SoundF Tryz.prog J 19 (F.desk_Desk_Answer ⟨I, kk⟩) := by
 refine SoundF.of_walk (I := lkI [(68, F.slices_Clone_Sstring_string ⟨I, kk⟩), (63, F.op_Client ⟨I, kk⟩)]) (lkI_sound ⟨S.slices_Clone_Sstring_string hI mI, S.op_Client hI mI, trivial⟩) (lkI_mono _) mixed W7.A.desk_Desk_Answer Tryz.func19 rfl (by kernel_rfl) (by kernel_rfl) Tryz.call19 fun args h K hs => ?_
 match args, hs with
 | [a0, a1], hs => exact ⟨Nat.le_of_ble_eq_true (by kernel_rfl), Eq.mp (by kernel_rfl) hs⟩
theorem S.slices_Clone_Sint64_int64 (hI : SoundI Tryz.prog J I) (mI : MonoI I) : SoundF Tryz.prog J 124 (F.slices_Clone_Sint64_int64 ⟨I, kk⟩) := by
 refine SoundF.of_walk (I := lkI []) (lkI_sound trivial) (lkI_mono _) mixed W7.A.slices_Clone_Sint64_int64 Tryz.func124 rfl (by kernel_rfl) (by kernel_rfl) Tryz.call124 fun args h K hs => ?_
 match args, hs with
 | [a0], hs => exact ⟨Nat.le_of_ble_eq_true (by kernel_rfl), Eq.mp (by kernel_rfl) hs⟩
theorem S.desk_Desk_Nows (hI : SoundI Tryz.prog J I) (mI : MonoI I) : SoundF Tryz.prog J 61 (F.desk_Desk_Nows ⟨I, kk⟩) := by
 refine SoundF.of_walk (I := lkI [(124, F.slices_Clone_Sint64_int64 ⟨I, kk⟩)]) (lkI_sound ⟨S.slices_Clone_Sint64_int64 hI mI, trivial⟩) (lkI_mono _) mixed W7.A.desk_Desk_Nows Tryz.func61 rfl (by kernel_rfl) (by kernel_rfl) Tryz.call61 fun args h K hs => ?_
 match args, hs with
 | [a0, a1], hs => exact ⟨Nat.le_of_ble_eq_true (by kernel_rfl), Eq.mp (by kernel_rfl) hs⟩
theorem S.desk_Desk_Done (hI : SoundI Tryz.prog J I) (mI : MonoI I) : SoundF Tryz.prog J 18 (F.desk_Desk_Done ⟨I, kk⟩) := by
 refine SoundF.of_walk (I := lkI [(67, F.desk_trans_has ⟨I, kk⟩), (69, F.desk_trans_shards ⟨I, kk⟩)]) (lkI_sound ⟨S.desk_trans_has hI mI, S.desk_trans_shards hI mI, trivial⟩) (lkI_mono _) mixed W7.A.desk_Desk_Done Tryz.func18 rfl (by kernel_rfl) (by kernel_rfl) Tryz.call18 fun args h K hs => ?_
 match args, hs with
 | [a0, a1, a2], hs => exact ⟨Nat.le_of_ble_eq_true (by kernel_rfl), Eq.mp (by kernel_rfl) hs⟩
theorem S.lock_New (hI : SoundI Tryz.prog J I) (mI : MonoI I) : SoundF Tryz.prog J 105 (F.lock_New ⟨I, kk⟩) := by
 refine SoundF.of_walk (I := lkI []) (lkI_sound trivial) (lkI_mono _) mixed W7.A.lock_New Tryz.func105 rfl (by kernel_rfl) (by kernel_rfl) Tryz.call105 fun args h K hs => ?_
 match args, hs with
 | [], hs => exact ⟨Nat.le_of_ble_eq_true (by kernel_rfl), Eq.mp (by kernel_rfl) hs⟩
theorem S.vault_New (hI : SoundI Tryz.prog J I) (mI : MonoI I) : SoundF Tryz.prog J 48 (F.vault_New ⟨I, kk⟩) := by
 refine SoundF.of_walk (I := lkI [(105, F.lock_New ⟨I, kk⟩), (71, F.name_New ⟨I, kk⟩)]) (lkI_sound ⟨S.lock_New hI mI, S.name_New hI mI, trivial⟩) (lkI_mono _) mixed W7.A.vault_New Tryz.func48 rfl (by kernel_rfl) (by kernel_rfl) Tryz.call48 fun args h K hs => ?_
 match args, hs with
 | [], hs => exact ⟨Nat.le_of_ble_eq_true (by kernel_rfl), Eq.mp (by kernel_rfl) hs⟩
theorem S.shard_New (hI : SoundI Tryz.prog J I) (mI : MonoI I) : SoundF Tryz.prog J 30 (F.shard_New ⟨I, kk⟩) := by
 refine SoundF.of_walk (I := lkI [(48, F.vault_New ⟨I, kk⟩), (15, F.desk_New ⟨I, kk⟩)]) (lkI_sound ⟨S.vault_New hI mI, S.desk_New hI mI, trivial⟩) (lkI_mono _) mixed W7.A.shard_New Tryz.func30 rfl (by kernel_rfl) (by kernel_rfl) Tryz.call30 fun args h K hs => ?_
 match args, hs with
 | [a0, a1], hs => exact ⟨Nat.le_of_ble_eq_true (by kernel_rfl), Eq.mp (by kernel_rfl) hs⟩
theorem S.estafetteref12_Client (hI : SoundI Tryz.prog J I) (mI : MonoI I) : SoundF Tryz.prog J 29 (F.estafetteref12_Client ⟨I, kk⟩) := by
 refine SoundF.of_walk (I := lkI []) (lkI_sound trivial) (lkI_mono _) mixed W7.A.estafetteref12_Client Tryz.func29 rfl (by kernel_rfl) (by kernel_rfl) Tryz.call29 fun args h K hs => ?_
 match args, hs with
 | [a0], hs => exact ⟨Nat.le_of_ble_eq_true (by kernel_rfl), Eq.mp (by kernel_rfl) hs⟩
theorem S.slices_Equal_Sint64_int64 (hI : SoundI Tryz.prog J I) (mI : MonoI I) : SoundF Tryz.prog J 216 (F.slices_Equal_Sint64_int64 ⟨I, kk⟩) := by
 refine SoundF.of_walk (I := lkI []) (lkI_sound trivial) (lkI_mono _) mixed W7.A.slices_Equal_Sint64_int64 Tryz.func216 rfl (by kernel_rfl) (by kernel_rfl) Tryz.call216 fun args h K hs => ?_
 match args, hs with
 | [a0, a1], hs => exact ⟨Nat.le_of_ble_eq_true (by kernel_rfl), Eq.mp (by kernel_rfl) hs⟩
theorem S.slices_Equal_Sstring_string (hI : SoundI Tryz.prog J I) (mI : MonoI I) : SoundF Tryz.prog J 195 (F.slices_Equal_Sstring_string ⟨I, kk⟩) := by
 refine SoundF.of_walk (I := lkI []) (lkI_sound trivial) (lkI_mono _) mixed W7.A.slices_Equal_Sstring_string Tryz.func195 rfl (by kernel_rfl) (by kernel_rfl) Tryz.call195 fun args h K hs => ?_
 match args, hs with
 | [a0, a1], hs => exact ⟨Nat.le_of_ble_eq_true (by kernel_rfl), Eq.mp (by kernel_rfl) hs⟩
theorem S.rec_Eq (hI : SoundI Tryz.prog J I) (mI : MonoI I) : SoundF Tryz.prog J 145 (F.rec_Eq ⟨I, kk⟩) := by
 refine SoundF.of_walk (I := lkI [(216, F.slices_Equal_Sint64_int64 ⟨I, kk⟩), (195, F.slices_Equal_Sstring_string ⟨I, kk⟩)]) (lkI_sound ⟨S.slices_Equal_Sint64_int64 hI mI, S.slices_Equal_Sstring_string hI mI, trivial⟩) (lkI_mono _) mixed W7.A.rec_Eq Tryz.func145 rfl (by kernel_rfl) (by kernel_rfl) Tryz.call145 fun args h K hs => ?_
 match args, hs with
 | [a0, a1], hs => exact ⟨Nat.le_of_ble_eq_true (by kernel_rfl), Eq.mp (by kernel_rfl) hs⟩
theorem S.op_Get (hI : SoundI Tryz.prog J I) (mI : MonoI I) : SoundF Tryz.prog J 139 (F.op_Get ⟨I, kk⟩) := by
 refine SoundF.of_walk (I := lkI [(135, F.op_Put ⟨I, kk⟩), (145, F.rec_Eq ⟨I, kk⟩)]) (lkI_sound ⟨S.op_Put hI mI, S.rec_Eq hI mI, trivial⟩) (lkI_mono _) mixed W7.A.op_Get Tryz.func139 rfl (by kernel_rfl) (by kernel_rfl) Tryz.call139 fun args h K hs => ?_
 match args, hs with
 | [a0], hs => exact ⟨Nat.le_of_ble_eq_true (by kernel_rfl), Eq.mp (by kernel_rfl) hs⟩
theorem S.name_Coord (hI : SoundI Tryz.prog J I) (mI : MonoI I) : SoundF Tryz.prog J 146 (F.name_Coord ⟨I, kk⟩) := by
 refine SoundF.of_walk (I := lkI []) (lkI_sound trivial) (lkI_mono _) mixed W7.A.name_Coord Tryz.func146 rfl (by kernel_rfl) (by kernel_rfl) Tryz.call146 fun args h K hs => ?_
 match args, hs with
 | [a0, a1], hs => exact ⟨Nat.le_of_ble_eq_true (by kernel_rfl), Eq.mp (by kernel_rfl) hs⟩
theorem S.shard_Shard_mine (hI : SoundI Tryz.prog J I) (mI : MonoI I) : SoundF Tryz.prog J 84 (F.shard_Shard_mine ⟨I, kk⟩) := by
 refine SoundF.of_walk (I := lkI [(146, F.name_Coord ⟨I, kk⟩)]) (lkI_sound ⟨S.name_Coord hI mI, trivial⟩) (lkI_mono _) mixed W7.A.shard_Shard_mine Tryz.func84 rfl (by kernel_rfl) (by kernel_rfl) Tryz.call84 fun args h K hs => ?_
 match args, hs with
 | [a0, a1], hs => exact ⟨Nat.le_of_ble_eq_true (by kernel_rfl), Eq.mp (by kernel_rfl) hs⟩
theorem S.slices_IndexFunc_Sapi_Word_api_Word (hI : SoundI Tryz.prog J I) (mI : MonoI I) : SoundF Tryz.prog J 274 (F.slices_IndexFunc_Sapi_Word_api_Word ⟨I, kk⟩) := by
 refine SoundF.of_walk (I := I) hI mI mixed W7.A.slices_IndexFunc_Sapi_Word_api_Word Tryz.func274 rfl (by kernel_rfl) (by kernel_rfl) Tryz.call274 fun args h K hs => ?_
 match args, hs with
 | [a0, a1], hs => exact ⟨Nat.le_of_ble_eq_true (by kernel_rfl), Eq.mp (by kernel_rfl) hs⟩
theorem S.slices_DeleteFunc_Sapi_Word_api_Word (hI : SoundI Tryz.prog J I) (mI : MonoI I) : SoundF Tryz.prog J 214 (F.slices_DeleteFunc_Sapi_Word_api_Word ⟨I, kk⟩) := by
 refine SoundF.of_walk (I := inI [(274, F.slices_IndexFunc_Sapi_Word_api_Word ⟨I, kk⟩)] I) (inI_sound ⟨S.slices_IndexFunc_Sapi_Word_api_Word hI mI, trivial⟩ hI) (inI_mono mI) mixed W7.A.slices_DeleteFunc_Sapi_Word_api_Word Tryz.func214 rfl (by kernel_rfl) (by kernel_rfl) Tryz.call214 fun args h K hs => ?_
 match args, hs with
 | [a0, a1], hs => exact ⟨Nat.le_of_ble_eq_true (by kernel_rfl), Eq.mp (by kernel_rfl) hs⟩
theorem S.shard_Shard_of (hI : SoundI Tryz.prog J I) (mI : MonoI I) : SoundF Tryz.prog J 140 (F.shard_Shard_of ⟨I, kk⟩) := by
 refine SoundF.of_walk (I := lkI [(21, F.desk_Desk_Wants ⟨I, kk⟩), (214, F.slices_DeleteFunc_Sapi_Word_api_Word ⟨I, kk⟩)]) (lkI_sound ⟨S.desk_Desk_Wants hI mI, S.slices_DeleteFunc_Sapi_Word_api_Word hI mI, trivial⟩) (lkI_mono _) mixed W7.A.shard_Shard_of Tryz.func140 rfl (by kernel_rfl) (by kernel_rfl) Tryz.call140 fun args h K hs => ?_
 match args, hs with
 | [a0, a1], hs => exact ⟨Nat.le_of_ble_eq_true (by kernel_rfl), Eq.mp (by kernel_rfl) hs⟩
theorem S.shard_Shard_begins (hI : SoundI Tryz.prog J I) (mI : MonoI I) : SoundF Tryz.prog J 79 (F.shard_Shard_begins ⟨I, kk⟩) := by
 refine SoundF.of_walk (I := lkI [(139, F.op_Get ⟨I, kk⟩), (84, F.shard_Shard_mine ⟨I, kk⟩), (16, F.desk_Desk_Begin ⟨I, kk⟩), (140, F.shard_Shard_of ⟨I, kk⟩)]) (lkI_sound ⟨S.op_Get hI mI, S.shard_Shard_mine hI mI, S.desk_Desk_Begin hI mI, S.shard_Shard_of hI mI, trivial⟩) (lkI_mono _) mixed W7.A.shard_Shard_begins Tryz.func79 rfl (by kernel_rfl) (by kernel_rfl) Tryz.call79 fun args h K hs => ?_
 match args, hs with
 | [a0, a1], hs => exact ⟨Nat.le_of_ble_eq_true (by kernel_rfl), Eq.mp (by kernel_rfl) hs⟩
theorem S.name_Ids_Has (hI : SoundI Tryz.prog J I) (mI : MonoI I) : SoundF Tryz.prog J 111 (F.name_Ids_Has ⟨I, kk⟩) := by
 refine SoundF.of_walk (I := lkI []) (lkI_sound trivial) (lkI_mono _) mixed W7.A.name_Ids_Has Tryz.func111 rfl (by kernel_rfl) (by kernel_rfl) Tryz.call111 fun args h K hs => ?_
 match args, hs with
 | [a0, a1], hs => exact ⟨Nat.le_of_ble_eq_true (by kernel_rfl), Eq.mp (by kernel_rfl) hs⟩
theorem S.vault_Vault_Over (hI : SoundI Tryz.prog J I) (mI : MonoI I) : SoundF Tryz.prog J 55 (F.vault_Vault_Over ⟨I, kk⟩) := by
 refine SoundF.of_walk (I := lkI [(111, F.name_Ids_Has ⟨I, kk⟩)]) (lkI_sound ⟨S.name_Ids_Has hI mI, trivial⟩) (lkI_mono _) mixed W7.A.vault_Vault_Over Tryz.func55 rfl (by kernel_rfl) (by kernel_rfl) Tryz.call55 fun args h K hs => ?_
 match args, hs with
 | [a0, a1], hs => exact ⟨Nat.le_of_ble_eq_true (by kernel_rfl), Eq.mp (by kernel_rfl) hs⟩
theorem S.op_Kind (hI : SoundI Tryz.prog J I) (mI : MonoI I) : SoundF Tryz.prog J 184 (F.op_Kind ⟨I, kk⟩) := by
 refine SoundF.of_walk (I := lkI []) (lkI_sound trivial) (lkI_mono _) mixed W7.A.op_Kind Tryz.func184 rfl (by kernel_rfl) (by kernel_rfl) Tryz.call184 fun args h K hs => ?_
 match args, hs with
 | [a0], hs => exact ⟨Nat.le_of_ble_eq_true (by kernel_rfl), Eq.mp (by kernel_rfl) hs⟩
theorem S.slices_insertionSortCmpFunc_lock_Key (hI : SoundI Tryz.prog J I) (mI : MonoI I) : SoundF Tryz.prog J 327 (F.slices_insertionSortCmpFunc_lock_Key ⟨I, kk⟩) := by
 refine SoundF.of_walk (I := I) hI mI mixed W7.A.slices_insertionSortCmpFunc_lock_Key Tryz.func327 rfl (by kernel_rfl) (by kernel_rfl) Tryz.call327 fun args h K hs => ?_
 match args, hs with
 | [a0, a1, a2, a3], hs => exact ⟨Nat.le_of_ble_eq_true (by kernel_rfl), Eq.mp (by kernel_rfl) hs⟩
theorem Sr.slices_pdqsortCmpFunc_lock_Key (hI : SoundI Tryz.prog J I) (mI : MonoI I) : ∀ fuel, SoundF Tryz.prog J 285 (Fr.slices_pdqsortCmpFunc_lock_Key fuel ⟨I, kk⟩)
 | 0 => SoundF.no
 | fuel + 1 => by
  refine SoundF.of_walk (I := lkI [(327, F.slices_insertionSortCmpFunc_lock_Key ⟨I, kk⟩), (285, Fr.slices_pdqsortCmpFunc_lock_Key fuel ⟨I, kk⟩)]) (lkI_sound ⟨S.slices_insertionSortCmpFunc_lock_Key hI mI, Sr.slices_pdqsortCmpFunc_lock_Key hI mI fuel, trivial⟩) (lkI_mono _) mixed W7.A.slices_pdqsortCmpFunc_lock_Key Tryz.func285 rfl (by kernel_rfl) (by kernel_rfl) Tryz.call285 fun args h K hs => ?_
  match args, hs with
  | [a0, a1, a2, a3, a4], hs => exact ⟨Nat.le_of_ble_eq_true (by kernel_rfl), Eq.mp (by kernel_rfl) hs⟩
theorem S.slices_pdqsortCmpFunc_lock_Key (hI : SoundI Tryz.prog J I) (mI : MonoI I) : SoundF Tryz.prog J 285 (F.slices_pdqsortCmpFunc_lock_Key ⟨I, kk⟩) := SoundF.ex (Sr.slices_pdqsortCmpFunc_lock_Key hI mI)
theorem S.slices_SortFunc_Slock_Key_lock_Key (hI : SoundI Tryz.prog J I) (mI : MonoI I) : SoundF Tryz.prog J 242 (F.slices_SortFunc_Slock_Key_lock_Key ⟨I, kk⟩) := by
 refine SoundF.of_walk (I := lkI [(271, F.math_bits_Len ⟨I, kk⟩), (285, F.slices_pdqsortCmpFunc_lock_Key ⟨I, kk⟩)]) (lkI_sound ⟨S.math_bits_Len hI mI, S.slices_pdqsortCmpFunc_lock_Key hI mI, trivial⟩) (lkI_mono _) mixed W7.A.slices_SortFunc_Slock_Key_lock_Key Tryz.func242 rfl (by kernel_rfl) (by kernel_rfl) Tryz.call242 fun args h K hs => ?_
 match args, hs with
 | [a0, a1], hs => exact ⟨Nat.le_of_ble_eq_true (by kernel_rfl), Eq.mp (by kernel_rfl) hs⟩
theorem S.slices_Compact_Slock_Key_lock_Key (hI : SoundI Tryz.prog J I) (mI : MonoI I) : SoundF Tryz.prog J 244 (F.slices_Compact_Slock_Key_lock_Key ⟨I, kk⟩) := by
 refine SoundF.of_walk (I := lkI []) (lkI_sound trivial) (lkI_mono _) mixed W7.A.slices_Compact_Slock_Key_lock_Key Tryz.func244 rfl (by kernel_rfl) (by kernel_rfl) Tryz.call244 fun args h K hs => ?_
 match args, hs with
 | [a0], hs => exact ⟨Nat.le_of_ble_eq_true (by kernel_rfl), Eq.mp (by kernel_rfl) hs⟩
theorem S.lock_sorted (hI : SoundI Tryz.prog J I) (mI : MonoI I) : SoundF Tryz.prog J 173 (F.lock_sorted ⟨I, kk⟩) := by
 refine SoundF.of_walk (I := lkI [(242, F.slices_SortFunc_Slock_Key_lock_Key ⟨I, kk⟩), (244, F.slices_Compact_Slock_Key_lock_Key ⟨I, kk⟩)]) (lkI_sound ⟨S.slices_SortFunc_Slock_Key_lock_Key hI mI, S.slices_Compact_Slock_Key_lock_Key hI mI, trivial⟩) (lkI_mono _) mixed W7.A.lock_sorted Tryz.func173 rfl (by kernel_rfl) (by kernel_rfl) Tryz.call173 fun args h K hs => ?_
 match args, hs with
 | [a0], hs => exact ⟨Nat.le_of_ble_eq_true (by kernel_rfl), Eq.mp (by kernel_rfl) hs⟩
theorem S.lock_Of (hI : SoundI Tryz.prog J I) (mI : MonoI I) : SoundF Tryz.prog J 113 (F.lock_Of ⟨I, kk⟩) := by
 refine SoundF.of_walk (I := lkI [(184, F.op_Kind ⟨I, kk⟩), (173, F.lock_sorted ⟨I, kk⟩)]) (lkI_sound ⟨S.op_Kind hI mI, S.lock_sorted hI mI, trivial⟩) (lkI_mono _) mixed W7.A.lock_Of Tryz.func113 rfl (by kernel_rfl) (by kernel_rfl) Tryz.call113 fun args h K hs => ?_
 match args, hs with
 | [a0], hs => exact ⟨Nat.le_of_ble_eq_true (by kernel_rfl), Eq.mp (by kernel_rfl) hs⟩
theorem S.slices_IndexFunc_Slock_Key_lock_Key (hI : SoundI Tryz.prog J I) (mI : MonoI I) : SoundF Tryz.prog J 259 (F.slices_IndexFunc_Slock_Key_lock_Key ⟨I, kk⟩) := by
 refine SoundF.of_walk (I := I) hI mI mixed W7.A.slices_IndexFunc_Slock_Key_lock_Key Tryz.func259 rfl (by kernel_rfl) (by kernel_rfl) Tryz.call259 fun args h K hs => ?_
 match args, hs with
 | [a0, a1], hs => exact ⟨Nat.le_of_ble_eq_true (by kernel_rfl), Eq.mp (by kernel_rfl) hs⟩
theorem S.slices_ContainsFunc_Slock_Key_lock_Key (hI : SoundI Tryz.prog J I) (mI : MonoI I) : SoundF Tryz.prog J 181 (F.slices_ContainsFunc_Slock_Key_lock_Key ⟨I, kk⟩) := by
 refine SoundF.of_walk (I := lkI [(259, F.slices_IndexFunc_Slock_Key_lock_Key ⟨I, kk⟩)]) (lkI_sound ⟨S.slices_IndexFunc_Slock_Key_lock_Key hI mI, trivial⟩) (lkI_mono _) mixed W7.A.slices_ContainsFunc_Slock_Key_lock_Key Tryz.func181 rfl (by kernel_rfl) (by kernel_rfl) Tryz.call181 fun args h K hs => ?_
 match args, hs with
 | [a0, a1], hs => exact ⟨Nat.le_of_ble_eq_true (by kernel_rfl), Eq.mp (by kernel_rfl) hs⟩
theorem S.lock_Locks_Take (hI : SoundI Tryz.prog J I) (mI : MonoI I) : SoundF Tryz.prog J 112 (F.lock_Locks_Take ⟨I, kk⟩) := by
 refine SoundF.of_walk (I := lkI [(181, F.slices_ContainsFunc_Slock_Key_lock_Key ⟨I, kk⟩)]) (lkI_sound ⟨S.slices_ContainsFunc_Slock_Key_lock_Key hI mI, trivial⟩) (lkI_mono _) mixed W7.A.lock_Locks_Take Tryz.func112 rfl (by kernel_rfl) (by kernel_rfl) Tryz.call112 fun args h K hs => ?_
 match args, hs with
 | [a0, a1, a2], hs => exact ⟨Nat.le_of_ble_eq_true (by kernel_rfl), Eq.mp (by kernel_rfl) hs⟩
theorem S.maps_Clone_map_string_string_string_string (hI : SoundI Tryz.prog J I) (mI : MonoI I) : SoundF Tryz.prog J 278 (F.maps_Clone_map_string_string_string_string ⟨I, kk⟩) := by
 refine SoundF.of_walk (I := lkI [(317, F.maps_clone ⟨I, kk⟩)]) (lkI_sound ⟨S.maps_clone hI mI, trivial⟩) (lkI_mono _) mixed W7.A.maps_Clone_map_string_string_string_string Tryz.func278 rfl (by kernel_rfl) (by kernel_rfl) Tryz.call278 fun args h K hs => ?_
 match args, hs with
 | [a0], hs => exact ⟨Nat.le_of_ble_eq_true (by kernel_rfl), Eq.mp (by kernel_rfl) hs⟩
theorem S.table_Table_Clone (hI : SoundI Tryz.prog J I) (mI : MonoI I) : SoundF Tryz.prog J 223 (F.table_Table_Clone ⟨I, kk⟩) := by
 refine SoundF.of_walk (I := lkI [(278, F.maps_Clone_map_string_string_string_string ⟨I, kk⟩)]) (lkI_sound ⟨S.maps_Clone_map_string_string_string_string hI mI, trivial⟩) (lkI_mono _) mixed W7.A.table_Table_Clone Tryz.func223 rfl (by kernel_rfl) (by kernel_rfl) Tryz.call223 fun args h K hs => ?_
 match args, hs with
 | [a0], hs => exact ⟨Nat.le_of_ble_eq_true (by kernel_rfl), Eq.mp (by kernel_rfl) hs⟩
theorem S.slices_Clone_Sapi_Msg_api_Msg (hI : SoundI Tryz.prog J I) (mI : MonoI I) : SoundF Tryz.prog J 221 (F.slices_Clone_Sapi_Msg_api_Msg ⟨I, kk⟩) := by
 refine SoundF.of_walk (I := lkI []) (lkI_sound trivial) (lkI_mono _) mixed W7.A.slices_Clone_Sapi_Msg_api_Msg Tryz.func221 rfl (by kernel_rfl) (by kernel_rfl) Tryz.call221 fun args h K hs => ?_
 match args, hs with
 | [a0], hs => exact ⟨Nat.le_of_ble_eq_true (by kernel_rfl), Eq.mp (by kernel_rfl) hs⟩
theorem S.queue_Queue_Clone (hI : SoundI Tryz.prog J I) (mI : MonoI I) : SoundF Tryz.prog J 224 (F.queue_Queue_Clone ⟨I, kk⟩) := by
 refine SoundF.of_walk (I := lkI [(221, F.slices_Clone_Sapi_Msg_api_Msg ⟨I, kk⟩)]) (lkI_sound ⟨S.slices_Clone_Sapi_Msg_api_Msg hI mI, trivial⟩) (lkI_mono _) mixed W7.A.queue_Queue_Clone Tryz.func224 rfl (by kernel_rfl) (by kernel_rfl) Tryz.call224 fun args h K hs => ?_
 match args, hs with
 | [a0], hs => exact ⟨Nat.le_of_ble_eq_true (by kernel_rfl), Eq.mp (by kernel_rfl) hs⟩
theorem S.maps_Clone_map_string_int64_string_int64 (hI : SoundI Tryz.prog J I) (mI : MonoI I) : SoundF Tryz.prog J 279 (F.maps_Clone_map_string_int64_string_int64 ⟨I, kk⟩) := by
 refine SoundF.of_walk (I := lkI [(317, F.maps_clone ⟨I, kk⟩)]) (lkI_sound ⟨S.maps_clone hI mI, trivial⟩) (lkI_mono _) mixed W7.A.maps_Clone_map_string_int64_string_int64 Tryz.func279 rfl (by kernel_rfl) (by kernel_rfl) Tryz.call279 fun args h K hs => ?_
 match args, hs with
 | [a0], hs => exact ⟨Nat.le_of_ble_eq_true (by kernel_rfl), Eq.mp (by kernel_rfl) hs⟩
theorem S.topic_Topic_Clone (hI : SoundI Tryz.prog J I) (mI : MonoI I) : SoundF Tryz.prog J 225 (F.topic_Topic_Clone ⟨I, kk⟩) := by
 refine SoundF.of_walk (I := lkI [(68, F.slices_Clone_Sstring_string ⟨I, kk⟩), (279, F.maps_Clone_map_string_int64_string_int64 ⟨I, kk⟩)]) (lkI_sound ⟨S.slices_Clone_Sstring_string hI mI, S.maps_Clone_map_string_int64_string_int64 hI mI, trivial⟩) (lkI_mono _) mixed W7.A.topic_Topic_Clone Tryz.func225 rfl (by kernel_rfl) (by kernel_rfl) Tryz.call225 fun args h K hs => ?_
 match args, hs with
 | [a0], hs => exact ⟨Nat.le_of_ble_eq_true (by kernel_rfl), Eq.mp (by kernel_rfl) hs⟩
theorem S.space_Space_Clone (hI : SoundI Tryz.prog J I) (mI : MonoI I) : SoundF Tryz.prog J 165 (F.space_Space_Clone ⟨I, kk⟩) := by
 refine SoundF.of_walk (I := lkI [(223, F.table_Table_Clone ⟨I, kk⟩), (224, F.queue_Queue_Clone ⟨I, kk⟩), (225, F.topic_Topic_Clone ⟨I, kk⟩)]) (lkI_sound ⟨S.table_Table_Clone hI mI, S.queue_Queue_Clone hI mI, S.topic_Topic_Clone hI mI, trivial⟩) (lkI_mono _) mixed W7.A.space_Space_Clone Tryz.func165 rfl (by kernel_rfl) (by kernel_rfl) Tryz.call165 fun args h K hs => ?_
 match args, hs with
 | [a0], hs => exact ⟨Nat.le_of_ble_eq_true (by kernel_rfl), Eq.mp (by kernel_rfl) hs⟩
theorem S.vault_Vault_sees (hI : SoundI Tryz.prog J I) (mI : MonoI I) : SoundF Tryz.prog J 185 (F.vault_Vault_sees ⟨I, kk⟩) := by
 refine SoundF.of_walk (I := lkI [(165, F.space_Space_Clone ⟨I, kk⟩)]) (lkI_sound ⟨S.space_Space_Clone hI mI, trivial⟩) (lkI_mono _) mixed W7.A.vault_Vault_sees Tryz.func185 rfl (by kernel_rfl) (by kernel_rfl) Tryz.call185 fun args h K hs => ?_
 match args, hs with
 | [a0, a1, a2], hs => exact ⟨Nat.le_of_ble_eq_true (by kernel_rfl), Eq.mp (by kernel_rfl) hs⟩
theorem S.vault_Vault_count (hI : SoundI Tryz.prog J I) (mI : MonoI I) : SoundF Tryz.prog J 186 (F.vault_Vault_count ⟨I, kk⟩) := by
 refine SoundF.of_walk (I := lkI []) (lkI_sound trivial) (lkI_mono _) mixed W7.A.vault_Vault_count Tryz.func186 rfl (by kernel_rfl) (by kernel_rfl) Tryz.call186 fun args h K hs => ?_
 match args, hs with
 | [a0, a1], hs => exact ⟨Nat.le_of_ble_eq_true (by kernel_rfl), Eq.mp (by kernel_rfl) hs⟩
theorem S.table_New (hI : SoundI Tryz.prog J I) (mI : MonoI I) : SoundF Tryz.prog J 231 (F.table_New ⟨I, kk⟩) := by
 refine SoundF.of_walk (I := lkI []) (lkI_sound trivial) (lkI_mono _) mixed W7.A.table_New Tryz.func231 rfl (by kernel_rfl) (by kernel_rfl) Tryz.call231 fun args h K hs => ?_
 match args, hs with
 | [], hs => exact ⟨Nat.le_of_ble_eq_true (by kernel_rfl), Eq.mp (by kernel_rfl) hs⟩
theorem S.queue_New (hI : SoundI Tryz.prog J I) (mI : MonoI I) : SoundF Tryz.prog J 232 (F.queue_New ⟨I, kk⟩) := by
 refine SoundF.of_walk (I := lkI []) (lkI_sound trivial) (lkI_mono _) mixed W7.A.queue_New Tryz.func232 rfl (by kernel_rfl) (by kernel_rfl) Tryz.call232 fun args h K hs => ?_
 match args, hs with
 | [a0], hs => exact ⟨Nat.le_of_ble_eq_true (by kernel_rfl), Eq.mp (by kernel_rfl) hs⟩
theorem S.topic_New (hI : SoundI Tryz.prog J I) (mI : MonoI I) : SoundF Tryz.prog J 233 (F.topic_New ⟨I, kk⟩) := by
 refine SoundF.of_walk (I := lkI []) (lkI_sound trivial) (lkI_mono _) mixed W7.A.topic_New Tryz.func233 rfl (by kernel_rfl) (by kernel_rfl) Tryz.call233 fun args h K hs => ?_
 match args, hs with
 | [], hs => exact ⟨Nat.le_of_ble_eq_true (by kernel_rfl), Eq.mp (by kernel_rfl) hs⟩
theorem S.space_New (hI : SoundI Tryz.prog J I) (mI : MonoI I) : SoundF Tryz.prog J 187 (F.space_New ⟨I, kk⟩) := by
 refine SoundF.of_walk (I := lkI [(231, F.table_New ⟨I, kk⟩), (232, F.queue_New ⟨I, kk⟩), (233, F.topic_New ⟨I, kk⟩)]) (lkI_sound ⟨S.table_New hI mI, S.queue_New hI mI, S.topic_New hI mI, trivial⟩) (lkI_mono _) mixed W7.A.space_New Tryz.func187 rfl (by kernel_rfl) (by kernel_rfl) Tryz.call187 fun args h K hs => ?_
 match args, hs with
 | [a0, a1], hs => exact ⟨Nat.le_of_ble_eq_true (by kernel_rfl), Eq.mp (by kernel_rfl) hs⟩
theorem S.table_Table_Put (hI : SoundI Tryz.prog J I) (mI : MonoI I) : SoundF Tryz.prog J 175 (F.table_Table_Put ⟨I, kk⟩) := by
 refine SoundF.of_walk (I := lkI []) (lkI_sound trivial) (lkI_mono _) mixed W7.A.table_Table_Put Tryz.func175 rfl (by kernel_rfl) (by kernel_rfl) Tryz.call175 fun args h K hs => ?_
 match args, hs with
 | [a0, a1, a2], hs => exact ⟨Nat.le_of_ble_eq_true (by kernel_rfl), Eq.mp (by kernel_rfl) hs⟩
theorem S.table_Table_Get (hI : SoundI Tryz.prog J I) (mI : MonoI I) : SoundF Tryz.prog J 174 (F.table_Table_Get ⟨I, kk⟩) := by
 refine SoundF.of_walk (I := lkI []) (lkI_sound trivial) (lkI_mono _) mixed W7.A.table_Table_Get Tryz.func174 rfl (by kernel_rfl) (by kernel_rfl) Tryz.call174 fun args h K hs => ?_
 match args, hs with
 | [a0, a1], hs => exact ⟨Nat.le_of_ble_eq_true (by kernel_rfl), Eq.mp (by kernel_rfl) hs⟩
theorem S.table_Table_Del (hI : SoundI Tryz.prog J I) (mI : MonoI I) : SoundF Tryz.prog J 176 (F.table_Table_Del ⟨I, kk⟩) := by
 refine SoundF.of_walk (I := lkI [(174, F.table_Table_Get ⟨I, kk⟩)]) (lkI_sound ⟨S.table_Table_Get hI mI, trivial⟩) (lkI_mono _) mixed W7.A.table_Table_Del Tryz.func176 rfl (by kernel_rfl) (by kernel_rfl) Tryz.call176 fun args h K hs => ?_
 match args, hs with
 | [a0, a1], hs => exact ⟨Nat.le_of_ble_eq_true (by kernel_rfl), Eq.mp (by kernel_rfl) hs⟩
theorem S.space_Space_table (hI : SoundI Tryz.prog J I) (mI : MonoI I) : SoundF Tryz.prog J 260 (F.space_Space_table ⟨I, kk⟩) := by
 refine SoundF.of_walk (I := lkI [(175, F.table_Table_Put ⟨I, kk⟩), (176, F.table_Table_Del ⟨I, kk⟩), (174, F.table_Table_Get ⟨I, kk⟩)]) (lkI_sound ⟨S.table_Table_Put hI mI, S.table_Table_Del hI mI, S.table_Table_Get hI mI, trivial⟩) (lkI_mono _) mixed W7.A.space_Space_table Tryz.func260 rfl (by kernel_rfl) (by kernel_rfl) Tryz.call260 fun args h K hs => ?_
 match args, hs with
 | [a0, a1], hs => exact ⟨Nat.le_of_ble_eq_true (by kernel_rfl), Eq.mp (by kernel_rfl) hs⟩
theorem S.queue_Queue_Send (hI : SoundI Tryz.prog J I) (mI : MonoI I) : SoundF Tryz.prog J 234 (F.queue_Queue_Send ⟨I, kk⟩) := by
 refine SoundF.of_walk (I := lkI []) (lkI_sound trivial) (lkI_mono _) mixed W7.A.queue_Queue_Send Tryz.func234 rfl (by kernel_rfl) (by kernel_rfl) Tryz.call234 fun args h K hs => ?_
 match args, hs with
 | [a0, a1], hs => exact ⟨Nat.le_of_ble_eq_true (by kernel_rfl), Eq.mp (by kernel_rfl) hs⟩
theorem S.space_text (hI : SoundI Tryz.prog J I) (mI : MonoI I) : SoundF Tryz.prog J 290 (F.space_text ⟨I, kk⟩) := by
 refine SoundF.of_walk (I := lkI [(336, F.strconv_FormatInt ⟨I, kk⟩)]) (lkI_sound ⟨S.strconv_FormatInt hI mI, trivial⟩) (lkI_mono _) mixed W7.A.space_text Tryz.func290 rfl (by kernel_rfl) (by kernel_rfl) Tryz.call290 fun args h K hs => ?_
 match args, hs with
 | [a0], hs => exact ⟨Nat.le_of_ble_eq_true (by kernel_rfl), Eq.mp (by kernel_rfl) hs⟩
theorem S.slices_Delete_Sapi_Msg_api_Msg (hI : SoundI Tryz.prog J I) (mI : MonoI I) : SoundF Tryz.prog J 280 (F.slices_Delete_Sapi_Msg_api_Msg ⟨I, kk⟩) := by
 refine SoundF.of_walk (I := lkI []) (lkI_sound trivial) (lkI_mono _) mixed W7.A.slices_Delete_Sapi_Msg_api_Msg Tryz.func280 rfl (by kernel_rfl) (by kernel_rfl) Tryz.call280 fun args h K hs => ?_
 match args, hs with
 | [a0, a1, a2], hs => exact ⟨Nat.le_of_ble_eq_true (by kernel_rfl), Eq.mp (by kernel_rfl) hs⟩
theorem S.queue_Queue_Recv (hI : SoundI Tryz.prog J I) (mI : MonoI I) : SoundF Tryz.prog J 235 (F.queue_Queue_Recv ⟨I, kk⟩) := by
 refine SoundF.of_walk (I := lkI [(280, F.slices_Delete_Sapi_Msg_api_Msg ⟨I, kk⟩)]) (lkI_sound ⟨S.slices_Delete_Sapi_Msg_api_Msg hI mI, trivial⟩) (lkI_mono _) mixed W7.A.queue_Queue_Recv Tryz.func235 rfl (by kernel_rfl) (by kernel_rfl) Tryz.call235 fun args h K hs => ?_
 match args, hs with
 | [a0, a1, a2], hs => exact ⟨Nat.le_of_ble_eq_true (by kernel_rfl), Eq.mp (by kernel_rfl) hs⟩
theorem S.space_number (hI : SoundI Tryz.prog J I) (mI : MonoI I) : SoundF Tryz.prog J 291 (F.space_number ⟨I, kk⟩) := by
 refine SoundF.of_walk (I := lkI [(337, F.strings_Trim ⟨I, kk⟩), (338, F.strconv_ParseInt ⟨I, kk⟩)]) (lkI_sound ⟨S.strings_Trim hI mI, S.strconv_ParseInt hI mI, trivial⟩) (lkI_mono _) mixed W7.A.space_number Tryz.func291 rfl (by kernel_rfl) (by kernel_rfl) Tryz.call291 fun args h K hs => ?_
 match args, hs with
 | [a0], hs => exact ⟨Nat.le_of_ble_eq_true (by kernel_rfl), Eq.mp (by kernel_rfl) hs⟩
theorem S.slices_IndexFunc_Sapi_Msg_api_Msg (hI : SoundI Tryz.prog J I) (mI : MonoI I) : SoundF Tryz.prog J 281 (F.slices_IndexFunc_Sapi_Msg_api_Msg ⟨I, kk⟩) := by
 refine SoundF.of_walk (I := I) hI mI mixed W7.A.slices_IndexFunc_Sapi_Msg_api_Msg Tryz.func281 rfl (by kernel_rfl) (by kernel_rfl) Tryz.call281 fun args h K hs => ?_
 match args, hs with
 | [a0, a1], hs => exact ⟨Nat.le_of_ble_eq_true (by kernel_rfl), Eq.mp (by kernel_rfl) hs⟩
theorem S.queue_Queue_Ack (hI : SoundI Tryz.prog J I) (mI : MonoI I) : SoundF Tryz.prog J 236 (F.queue_Queue_Ack ⟨I, kk⟩) := by
 refine SoundF.of_walk (I := lkI [(281, F.slices_IndexFunc_Sapi_Msg_api_Msg ⟨I, kk⟩), (280, F.slices_Delete_Sapi_Msg_api_Msg ⟨I, kk⟩)]) (lkI_sound ⟨S.slices_IndexFunc_Sapi_Msg_api_Msg hI mI, S.slices_Delete_Sapi_Msg_api_Msg hI mI, trivial⟩) (lkI_mono _) mixed W7.A.queue_Queue_Ack Tryz.func236 rfl (by kernel_rfl) (by kernel_rfl) Tryz.call236 fun args h K hs => ?_
 match args, hs with
 | [a0, a1, a2, a3], hs => exact ⟨Nat.le_of_ble_eq_true (by kernel_rfl), Eq.mp (by kernel_rfl) hs⟩
theorem S.queue_Queue_Dead (hI : SoundI Tryz.prog J I) (mI : MonoI I) : SoundF Tryz.prog J 292 (F.queue_Queue_Dead ⟨I, kk⟩) := by
 refine SoundF.of_walk (I := lkI [(280, F.slices_Delete_Sapi_Msg_api_Msg ⟨I, kk⟩)]) (lkI_sound ⟨S.slices_Delete_Sapi_Msg_api_Msg hI mI, trivial⟩) (lkI_mono _) mixed W7.A.queue_Queue_Dead Tryz.func292 rfl (by kernel_rfl) (by kernel_rfl) Tryz.call292 fun args h K hs => ?_
 match args, hs with
 | [a0], hs => exact ⟨Nat.le_of_ble_eq_true (by kernel_rfl), Eq.mp (by kernel_rfl) hs⟩
theorem S.space_Space_queue (hI : SoundI Tryz.prog J I) (mI : MonoI I) : SoundF Tryz.prog J 261 (F.space_Space_queue ⟨I, kk⟩) := by
 refine SoundF.of_walk (I := lkI [(234, F.queue_Queue_Send ⟨I, kk⟩), (290, F.space_text ⟨I, kk⟩), (235, F.queue_Queue_Recv ⟨I, kk⟩), (291, F.space_number ⟨I, kk⟩), (236, F.queue_Queue_Ack ⟨I, kk⟩), (292, F.queue_Queue_Dead ⟨I, kk⟩)]) (lkI_sound ⟨S.queue_Queue_Send hI mI, S.space_text hI mI, S.queue_Queue_Recv hI mI, S.space_number hI mI, S.queue_Queue_Ack hI mI, S.queue_Queue_Dead hI mI, trivial⟩) (lkI_mono _) mixed W7.A.space_Space_queue Tryz.func261 rfl (by kernel_rfl) (by kernel_rfl) Tryz.call261 fun args h K hs => ?_
 match args, hs with
 | [a0, a1, a2], hs => exact ⟨Nat.le_of_ble_eq_true (by kernel_rfl), Eq.mp (by kernel_rfl) hs⟩
theorem S.topic_Topic_Len (hI : SoundI Tryz.prog J I) (mI : MonoI I) : SoundF Tryz.prog J 222 (F.topic_Topic_Len ⟨I, kk⟩) := by
 refine SoundF.of_walk (I := lkI []) (lkI_sound trivial) (lkI_mono _) mixed W7.A.topic_Topic_Len Tryz.func222 rfl (by kernel_rfl) (by kernel_rfl) Tryz.call222 fun args h K hs => ?_
 match args, hs with
 | [a0], hs => exact ⟨Nat.le_of_ble_eq_true (by kernel_rfl), Eq.mp (by kernel_rfl) hs⟩
theorem S.topic_Topic_Pub (hI : SoundI Tryz.prog J I) (mI : MonoI I) : SoundF Tryz.prog J 237 (F.topic_Topic_Pub ⟨I, kk⟩) := by
 refine SoundF.of_walk (I := lkI [(222, F.topic_Topic_Len ⟨I, kk⟩)]) (lkI_sound ⟨S.topic_Topic_Len hI mI, trivial⟩) (lkI_mono _) mixed W7.A.topic_Topic_Pub Tryz.func237 rfl (by kernel_rfl) (by kernel_rfl) Tryz.call237 fun args h K hs => ?_
 match args, hs with
 | [a0, a1], hs => exact ⟨Nat.le_of_ble_eq_true (by kernel_rfl), Eq.mp (by kernel_rfl) hs⟩
theorem S.topic_Topic_At (hI : SoundI Tryz.prog J I) (mI : MonoI I) : SoundF Tryz.prog J 194 (F.topic_Topic_At ⟨I, kk⟩) := by
 refine SoundF.of_walk (I := lkI []) (lkI_sound trivial) (lkI_mono _) mixed W7.A.topic_Topic_At Tryz.func194 rfl (by kernel_rfl) (by kernel_rfl) Tryz.call194 fun args h K hs => ?_
 match args, hs with
 | [a0, a1], hs => exact ⟨Nat.le_of_ble_eq_true (by kernel_rfl), Eq.mp (by kernel_rfl) hs⟩
theorem S.topic_Topic_Fetch (hI : SoundI Tryz.prog J I) (mI : MonoI I) : SoundF Tryz.prog J 163 (F.topic_Topic_Fetch ⟨I, kk⟩) := by
 refine SoundF.of_walk (I := lkI [(194, F.topic_Topic_At ⟨I, kk⟩), (222, F.topic_Topic_Len ⟨I, kk⟩), (68, F.slices_Clone_Sstring_string ⟨I, kk⟩)]) (lkI_sound ⟨S.topic_Topic_At hI mI, S.topic_Topic_Len hI mI, S.slices_Clone_Sstring_string hI mI, trivial⟩) (lkI_mono _) mixed W7.A.topic_Topic_Fetch Tryz.func163 rfl (by kernel_rfl) (by kernel_rfl) Tryz.call163 fun args h K hs => ?_
 match args, hs with
 | [a0, a1, a2], hs => exact ⟨Nat.le_of_ble_eq_true (by kernel_rfl), Eq.mp (by kernel_rfl) hs⟩
theorem S.topic_Topic_Seek (hI : SoundI Tryz.prog J I) (mI : MonoI I) : SoundF Tryz.prog J 238 (F.topic_Topic_Seek ⟨I, kk⟩) := by
 refine SoundF.of_walk (I := lkI [(194, F.topic_Topic_At ⟨I, kk⟩), (222, F.topic_Topic_Len ⟨I, kk⟩)]) (lkI_sound ⟨S.topic_Topic_At hI mI, S.topic_Topic_Len hI mI, trivial⟩) (lkI_mono _) mixed W7.A.topic_Topic_Seek Tryz.func238 rfl (by kernel_rfl) (by kernel_rfl) Tryz.call238 fun args h K hs => ?_
 match args, hs with
 | [a0, a1, a2, a3], hs => exact ⟨Nat.le_of_ble_eq_true (by kernel_rfl), Eq.mp (by kernel_rfl) hs⟩
theorem S.space_Space_topic (hI : SoundI Tryz.prog J I) (mI : MonoI I) : SoundF Tryz.prog J 262 (F.space_Space_topic ⟨I, kk⟩) := by
 refine SoundF.of_walk (I := lkI [(237, F.topic_Topic_Pub ⟨I, kk⟩), (290, F.space_text ⟨I, kk⟩), (163, F.topic_Topic_Fetch ⟨I, kk⟩), (291, F.space_number ⟨I, kk⟩), (238, F.topic_Topic_Seek ⟨I, kk⟩)]) (lkI_sound ⟨S.topic_Topic_Pub hI mI, S.space_text hI mI, S.topic_Topic_Fetch hI mI, S.space_number hI mI, S.topic_Topic_Seek hI mI, trivial⟩) (lkI_mono _) mixed W7.A.space_Space_topic Tryz.func262 rfl (by kernel_rfl) (by kernel_rfl) Tryz.call262 fun args h K hs => ?_
 match args, hs with
 | [a0, a1], hs => exact ⟨Nat.le_of_ble_eq_true (by kernel_rfl), Eq.mp (by kernel_rfl) hs⟩
theorem S.space_Space_Do (hI : SoundI Tryz.prog J I) (mI : MonoI I) : SoundF Tryz.prog J 188 (F.space_Space_Do ⟨I, kk⟩) := by
 refine SoundF.of_walk (I := lkI [(260, F.space_Space_table ⟨I, kk⟩), (261, F.space_Space_queue ⟨I, kk⟩), (262, F.space_Space_topic ⟨I, kk⟩)]) (lkI_sound ⟨S.space_Space_table hI mI, S.space_Space_queue hI mI, S.space_Space_topic hI mI, trivial⟩) (lkI_mono _) mixed W7.A.space_Space_Do Tryz.func188 rfl (by kernel_rfl) (by kernel_rfl) Tryz.call188 fun args h K hs => ?_
 match args, hs with
 | [a0, a1, a2], hs => exact ⟨Nat.le_of_ble_eq_true (by kernel_rfl), Eq.mp (by kernel_rfl) hs⟩
theorem S.vault_Vault_does (hI : SoundI Tryz.prog J I) (mI : MonoI I) : SoundF Tryz.prog J 114 (F.vault_Vault_does ⟨I, kk⟩) := by
 refine SoundF.of_walk (I := lkI [(185, F.vault_Vault_sees ⟨I, kk⟩), (186, F.vault_Vault_count ⟨I, kk⟩), (187, F.space_New ⟨I, kk⟩), (188, F.space_Space_Do ⟨I, kk⟩)]) (lkI_sound ⟨S.vault_Vault_sees hI mI, S.vault_Vault_count hI mI, S.space_New hI mI, S.space_Space_Do hI mI, trivial⟩) (lkI_mono _) mixed W7.A.vault_Vault_does Tryz.func114 rfl (by kernel_rfl) (by kernel_rfl) Tryz.call114 fun args h K hs => ?_
 match args, hs with
 | [a0, a1, a2], hs => exact ⟨Nat.le_of_ble_eq_true (by kernel_rfl), Eq.mp (by kernel_rfl) hs⟩
theorem S.lock_Locks_Has (hI : SoundI Tryz.prog J I) (mI : MonoI I) : SoundF Tryz.prog J 107 (F.lock_Locks_Has ⟨I, kk⟩) := by
 refine SoundF.of_walk (I := lkI [(173, F.lock_sorted ⟨I, kk⟩)]) (lkI_sound ⟨S.lock_sorted hI mI, trivial⟩) (lkI_mono _) mixed W7.A.lock_Locks_Has Tryz.func107 rfl (by kernel_rfl) (by kernel_rfl) Tryz.call107 fun args h K hs => ?_
 match args, hs with
 | [a0, a1], hs => exact ⟨Nat.le_of_ble_eq_true (by kernel_rfl), Eq.mp (by kernel_rfl) hs⟩
theorem S.lock_Locks_Free (hI : SoundI Tryz.prog J I) (mI : MonoI I) : SoundF Tryz.prog J 108 (F.lock_Locks_Free ⟨I, kk⟩) := by
 refine SoundF.of_walk (I := lkI [(107, F.lock_Locks_Has ⟨I, kk⟩)]) (lkI_sound ⟨S.lock_Locks_Has hI mI, trivial⟩) (lkI_mono _) mixed W7.A.lock_Locks_Free Tryz.func108 rfl (by kernel_rfl) (by kernel_rfl) Tryz.call108 fun args h K hs => ?_
 match args, hs with
 | [a0, a1], hs => exact ⟨Nat.le_of_ble_eq_true (by kernel_rfl), Eq.mp (by kernel_rfl) hs⟩
theorem S.vault_Vault_Prepare (hI : SoundI Tryz.prog J I) (mI : MonoI I) : SoundF Tryz.prog J 52 (F.vault_Vault_Prepare ⟨I, kk⟩) := by
 refine SoundF.of_walk (I := lkI [(111, F.name_Ids_Has ⟨I, kk⟩), (64, F.op_All ⟨I, kk⟩), (68, F.slices_Clone_Sstring_string ⟨I, kk⟩), (113, F.lock_Of ⟨I, kk⟩), (112, F.lock_Locks_Take ⟨I, kk⟩), (65, F.slices_Clone_Sapi_Op_api_Op ⟨I, kk⟩), (114, F.vault_Vault_does ⟨I, kk⟩), (108, F.lock_Locks_Free ⟨I, kk⟩)]) (lkI_sound ⟨S.name_Ids_Has hI mI, S.op_All hI mI, S.slices_Clone_Sstring_string hI mI, S.lock_Of hI mI, S.lock_Locks_Take hI mI, S.slices_Clone_Sapi_Op_api_Op hI mI, S.vault_Vault_does hI mI, S.lock_Locks_Free hI mI, trivial⟩) (lkI_mono _) mixed W7.A.vault_Vault_Prepare Tryz.func52 rfl (by kernel_rfl) (by kernel_rfl) Tryz.call52 fun args h K hs => ?_
 match args, hs with
 | [a0, a1, a2, a3], hs => exact ⟨Nat.le_of_ble_eq_true (by kernel_rfl), Eq.mp (by kernel_rfl) hs⟩
theorem S.vault_Vault_At (hI : SoundI Tryz.prog J I) (mI : MonoI I) : SoundF Tryz.prog J 100 (F.vault_Vault_At ⟨I, kk⟩) := by
 refine SoundF.of_walk (I := lkI []) (lkI_sound trivial) (lkI_mono _) mixed W7.A.vault_Vault_At Tryz.func100 rfl (by kernel_rfl) (by kernel_rfl) Tryz.call100 fun args h K hs => ?_
 match args, hs with
 | [a0, a1], hs => exact ⟨Nat.le_of_ble_eq_true (by kernel_rfl), Eq.mp (by kernel_rfl) hs⟩
theorem S.slices_IndexFunc_Sstring_string (hI : SoundI Tryz.prog J I) (mI : MonoI I) : SoundF Tryz.prog J 266 (F.slices_IndexFunc_Sstring_string ⟨I, kk⟩) := by
 refine SoundF.of_walk (I := I) hI mI mixed W7.A.slices_IndexFunc_Sstring_string Tryz.func266 rfl (by kernel_rfl) (by kernel_rfl) Tryz.call266 fun args h K hs => ?_
 match args, hs with
 | [a0, a1], hs => exact ⟨Nat.le_of_ble_eq_true (by kernel_rfl), Eq.mp (by kernel_rfl) hs⟩
theorem S.slices_ContainsFunc_Sstring_string (hI : SoundI Tryz.prog J I) (mI : MonoI I) : SoundF Tryz.prog J 197 (F.slices_ContainsFunc_Sstring_string ⟨I, kk⟩) := by
 refine SoundF.of_walk (I := lkI [(266, F.slices_IndexFunc_Sstring_string ⟨I, kk⟩)]) (lkI_sound ⟨S.slices_IndexFunc_Sstring_string hI mI, trivial⟩) (lkI_mono _) mixed W7.A.slices_ContainsFunc_Sstring_string Tryz.func197 rfl (by kernel_rfl) (by kernel_rfl) Tryz.call197 fun args h K hs => ?_
 match args, hs with
 | [a0, a1], hs => exact ⟨Nat.le_of_ble_eq_true (by kernel_rfl), Eq.mp (by kernel_rfl) hs⟩
theorem S.op_Vote (hI : SoundI Tryz.prog J I) (mI : MonoI I) : SoundF Tryz.prog J 142 (F.op_Vote ⟨I, kk⟩) := by
 refine SoundF.of_walk (I := lkI [(63, F.op_Client ⟨I, kk⟩), (197, F.slices_ContainsFunc_Sstring_string ⟨I, kk⟩), (211, F.op_bit ⟨I, kk⟩), (68, F.slices_Clone_Sstring_string ⟨I, kk⟩)]) (lkI_sound ⟨S.op_Client hI mI, S.slices_ContainsFunc_Sstring_string hI mI, S.op_bit hI mI, S.slices_Clone_Sstring_string hI mI, trivial⟩) (lkI_mono _) mixed W7.A.op_Vote Tryz.func142 rfl (by kernel_rfl) (by kernel_rfl) Tryz.call142 fun args h K hs => ?_
 match args, hs with
 | [a0], hs => exact ⟨Nat.le_of_ble_eq_true (by kernel_rfl), Eq.mp (by kernel_rfl) hs⟩
theorem S.shard_Shard_word (hI : SoundI Tryz.prog J I) (mI : MonoI I) : SoundF Tryz.prog J 143 (F.shard_Shard_word ⟨I, kk⟩) := by
 refine SoundF.of_walk (I := lkI [(146, F.name_Coord ⟨I, kk⟩)]) (lkI_sound ⟨S.name_Coord hI mI, trivial⟩) (lkI_mono _) mixed W7.A.shard_Shard_word Tryz.func143 rfl (by kernel_rfl) (by kernel_rfl) Tryz.call143 fun args h K hs => ?_
 match args, hs with
 | [a0, a1, a2, a3], hs => exact ⟨Nat.le_of_ble_eq_true (by kernel_rfl), Eq.mp (by kernel_rfl) hs⟩
theorem S.shard_Shard_prepares (hI : SoundI Tryz.prog J I) (mI : MonoI I) : SoundF Tryz.prog J 80 (F.shard_Shard_prepares ⟨I, kk⟩) := by
 refine SoundF.of_walk (I := lkI [(139, F.op_Get ⟨I, kk⟩), (125, F.slices_ContainsFunc_Sapi_Op_api_Op ⟨I, kk⟩), (55, F.vault_Vault_Over ⟨I, kk⟩), (52, F.vault_Vault_Prepare ⟨I, kk⟩), (100, F.vault_Vault_At ⟨I, kk⟩), (142, F.op_Vote ⟨I, kk⟩), (143, F.shard_Shard_word ⟨I, kk⟩)]) (lkI_sound ⟨S.op_Get hI mI, S.slices_ContainsFunc_Sapi_Op_api_Op hI mI, S.vault_Vault_Over hI mI, S.vault_Vault_Prepare hI mI, S.vault_Vault_At hI mI, S.op_Vote hI mI, S.shard_Shard_word hI mI, trivial⟩) (lkI_mono _) mixed W7.A.shard_Shard_prepares Tryz.func80 rfl (by kernel_rfl) (by kernel_rfl) Tryz.call80 fun args h K hs => ?_
 match args, hs with
 | [a0, a1], hs => exact ⟨Nat.le_of_ble_eq_true (by kernel_rfl), Eq.mp (by kernel_rfl) hs⟩
theorem S.op_GetVote (hI : SoundI Tryz.prog J I) (mI : MonoI I) : SoundF Tryz.prog J 144 (F.op_GetVote ⟨I, kk⟩) := by
 refine SoundF.of_walk (I := lkI [(68, F.slices_Clone_Sstring_string ⟨I, kk⟩), (142, F.op_Vote ⟨I, kk⟩), (145, F.rec_Eq ⟨I, kk⟩)]) (lkI_sound ⟨S.slices_Clone_Sstring_string hI mI, S.op_Vote hI mI, S.rec_Eq hI mI, trivial⟩) (lkI_mono _) mixed W7.A.op_GetVote Tryz.func144 rfl (by kernel_rfl) (by kernel_rfl) Tryz.call144 fun args h K hs => ?_
 match args, hs with
 | [a0], hs => exact ⟨Nat.le_of_ble_eq_true (by kernel_rfl), Eq.mp (by kernel_rfl) hs⟩
theorem S.shard_Shard_votes (hI : SoundI Tryz.prog J I) (mI : MonoI I) : SoundF Tryz.prog J 81 (F.shard_Shard_votes ⟨I, kk⟩) := by
 refine SoundF.of_walk (I := lkI [(144, F.op_GetVote ⟨I, kk⟩), (84, F.shard_Shard_mine ⟨I, kk⟩), (17, F.desk_Desk_Vote ⟨I, kk⟩), (61, F.desk_Desk_Nows ⟨I, kk⟩), (140, F.shard_Shard_of ⟨I, kk⟩)]) (lkI_sound ⟨S.op_GetVote hI mI, S.shard_Shard_mine hI mI, S.desk_Desk_Vote hI mI, S.desk_Desk_Nows hI mI, S.shard_Shard_of hI mI, trivial⟩) (lkI_mono _) mixed W7.A.shard_Shard_votes Tryz.func81 rfl (by kernel_rfl) (by kernel_rfl) Tryz.call81 fun args h K hs => ?_
 match args, hs with
 | [a0, a1], hs => exact ⟨Nat.le_of_ble_eq_true (by kernel_rfl), Eq.mp (by kernel_rfl) hs⟩
theorem S.op_GetWord (hI : SoundI Tryz.prog J I) (mI : MonoI I) : SoundF Tryz.prog J 83 (F.op_GetWord ⟨I, kk⟩) := by
 refine SoundF.of_walk (I := lkI [(134, F.op_Word ⟨I, kk⟩), (145, F.rec_Eq ⟨I, kk⟩)]) (lkI_sound ⟨S.op_Word hI mI, S.rec_Eq hI mI, trivial⟩) (lkI_mono _) mixed W7.A.op_GetWord Tryz.func83 rfl (by kernel_rfl) (by kernel_rfl) Tryz.call83 fun args h K hs => ?_
 match args, hs with
 | [a0], hs => exact ⟨Nat.le_of_ble_eq_true (by kernel_rfl), Eq.mp (by kernel_rfl) hs⟩
theorem S.name_Ids_Add (hI : SoundI Tryz.prog J I) (mI : MonoI I) : SoundF Tryz.prog J 106 (F.name_Ids_Add ⟨I, kk⟩) := by
 refine SoundF.of_walk (I := lkI []) (lkI_sound trivial) (lkI_mono _) mixed W7.A.name_Ids_Add Tryz.func106 rfl (by kernel_rfl) (by kernel_rfl) Tryz.call106 fun args h K hs => ?_
 match args, hs with
 | [a0, a1], hs => exact ⟨Nat.le_of_ble_eq_true (by kernel_rfl), Eq.mp (by kernel_rfl) hs⟩
theorem S.vault_Vault_lays (hI : SoundI Tryz.prog J I) (mI : MonoI I) : SoundF Tryz.prog J 109 (F.vault_Vault_lays ⟨I, kk⟩) := by
 refine SoundF.of_walk (I := lkI [(174, F.table_Table_Get ⟨I, kk⟩), (175, F.table_Table_Put ⟨I, kk⟩), (176, F.table_Table_Del ⟨I, kk⟩)]) (lkI_sound ⟨S.table_Table_Get hI mI, S.table_Table_Put hI mI, S.table_Table_Del hI mI, trivial⟩) (lkI_mono _) mixed W7.A.vault_Vault_lays Tryz.func109 rfl (by kernel_rfl) (by kernel_rfl) Tryz.call109 fun args h K hs => ?_
 match args, hs with
 | [a0, a1, a2, a3], hs => exact ⟨Nat.le_of_ble_eq_true (by kernel_rfl), Eq.mp (by kernel_rfl) hs⟩
theorem S.vault_Vault_Decide (hI : SoundI Tryz.prog J I) (mI : MonoI I) : SoundF Tryz.prog J 50 (F.vault_Vault_Decide ⟨I, kk⟩) := by
 refine SoundF.of_walk (I := lkI [(106, F.name_Ids_Add ⟨I, kk⟩), (107, F.lock_Locks_Has ⟨I, kk⟩), (108, F.lock_Locks_Free ⟨I, kk⟩), (109, F.vault_Vault_lays ⟨I, kk⟩)]) (lkI_sound ⟨S.name_Ids_Add hI mI, S.lock_Locks_Has hI mI, S.lock_Locks_Free hI mI, S.vault_Vault_lays hI mI, trivial⟩) (lkI_mono _) mixed W7.A.vault_Vault_Decide Tryz.func50 rfl (by kernel_rfl) (by kernel_rfl) Tryz.call50 fun args h K hs => ?_
 match args, hs with
 | [a0, a1, a2], hs => exact ⟨Nat.le_of_ble_eq_true (by kernel_rfl), Eq.mp (by kernel_rfl) hs⟩
theorem S.shard_Shard_decides (hI : SoundI Tryz.prog J I) (mI : MonoI I) : SoundF Tryz.prog J 82 (F.shard_Shard_decides ⟨I, kk⟩) := by
 refine SoundF.of_walk (I := lkI [(83, F.op_GetWord ⟨I, kk⟩), (50, F.vault_Vault_Decide ⟨I, kk⟩), (134, F.op_Word ⟨I, kk⟩), (143, F.shard_Shard_word ⟨I, kk⟩)]) (lkI_sound ⟨S.op_GetWord hI mI, S.vault_Vault_Decide hI mI, S.op_Word hI mI, S.shard_Shard_word hI mI, trivial⟩) (lkI_mono _) mixed W7.A.shard_Shard_decides Tryz.func82 rfl (by kernel_rfl) (by kernel_rfl) Tryz.call82 fun args h K hs => ?_
 match args, hs with
 | [a0, a1], hs => exact ⟨Nat.le_of_ble_eq_true (by kernel_rfl), Eq.mp (by kernel_rfl) hs⟩
theorem S.shard_Shard_Apply (hI : SoundI Tryz.prog J I) (mI : MonoI I) : SoundF Tryz.prog J 31 (F.shard_Shard_Apply ⟨I, kk⟩) := by
 refine SoundF.of_walk (I := lkI [(79, F.shard_Shard_begins ⟨I, kk⟩), (80, F.shard_Shard_prepares ⟨I, kk⟩), (81, F.shard_Shard_votes ⟨I, kk⟩), (82, F.shard_Shard_decides ⟨I, kk⟩), (83, F.op_GetWord ⟨I, kk⟩), (84, F.shard_Shard_mine ⟨I, kk⟩), (18, F.desk_Desk_Done ⟨I, kk⟩)]) (lkI_sound ⟨S.shard_Shard_begins hI mI, S.shard_Shard_prepares hI mI, S.shard_Shard_votes hI mI, S.shard_Shard_decides hI mI, S.op_GetWord hI mI, S.shard_Shard_mine hI mI, S.desk_Desk_Done hI mI, trivial⟩) (lkI_mono _) mixed W7.A.shard_Shard_Apply Tryz.func31 rfl (by kernel_rfl) (by kernel_rfl) Tryz.call31 fun args h K hs => ?_
 match args, hs with
 | [a0, a1], hs => exact ⟨Nat.le_of_ble_eq_true (by kernel_rfl), Eq.mp (by kernel_rfl) hs⟩
theorem S.shard_Shard_Now (hI : SoundI Tryz.prog J I) (mI : MonoI I) : SoundF Tryz.prog J 32 (F.shard_Shard_Now ⟨I, kk⟩) := by
 refine SoundF.of_walk (I := lkI []) (lkI_sound trivial) (lkI_mono _) mixed W7.A.shard_Shard_Now Tryz.func32 rfl (by kernel_rfl) (by kernel_rfl) Tryz.call32 fun args h K hs => ?_
 match args, hs with
 | [a0], hs => exact ⟨Nat.le_of_ble_eq_true (by kernel_rfl), Eq.mp (by kernel_rfl) hs⟩
theorem S.estafettelaw15_begun (_ : SoundI Tryz.prog J I) (_ : MonoI I) : SoundF Tryz.prog J 14 (F.estafettelaw15_begun ⟨I, kk⟩) := begun15v
end Go.Abs
namespace Go.Abs
open Go Go.Proofs
def Z0 : FE := ⟨fun _ => none, kk⟩
def Z1 : FE := ⟨lkI [(202, F.op_May_1 Z0)], kk⟩
def ID : FuncId → Option Spec := lkI [(126, F.op_All_1 Z1), (202, F.op_May_1 Z0)]
def ED : FE := ⟨ID, kk⟩
theorem none_s : SoundI Tryz.prog J (fun _ => none) := fun _ _ h => by cases h
theorem none_m : MonoI (fun _ => none) := fun _ _ h => by cases h
theorem Z1_s : SoundI Tryz.prog J Z1.I := lkI_sound ⟨S.op_May_1 none_s none_m, trivial⟩
theorem Z1_m : MonoI Z1.I := lkI_mono _
theorem ID_sound : SoundI Tryz.prog J ID := lkI_sound ⟨S.op_All_1 Z1_s Z1_m, S.op_May_1 none_s none_m, trivial⟩
theorem ID_mono : MonoI ID := lkI_mono _
theorem opeD : OpE ED := ⟨ID_mono, ⟨Z1, rfl, Z1_m, Z0, rfl⟩, ⟨Z0, rfl⟩⟩
end Go.Abs

/- What is closed in the laws below: estafettelaw8.Begun, estafettelaw12.Begun: the kernel runs them. -/
import Derived.Test.YthhegdifbnghpaaGreatDoorWar
import Derived.Test.YthhegdifbnghpaaGreatDoorWbi
import Derived.Test.YthhegdifbnghpaaGreatDoorWbj
import Derived.Test.YthhegdifbnghpaaGreatDoorWap
import Derived.Test.YthhegdifbnghpaaGreatDoorWbn
import Derived.Test.YthhegdifbnghpaaGreatDoorWas
import Derived.Test.YthhegdifbnghpaaGreatDoorProg
import Derived.Test.YthhegdifbnghpaaGreatDoorWbg
set_option linter.unusedSimpArgs false
set_option linter.unusedVariables false
namespace Go.Abs
open Go Go.Proofs
theorem mixed0 : Tryz.prog.follows .mixedOrders = true := by kernel_rfl
def PU : List (Nat × (List V → AHeap → Ans)) := [(336, stillU fmtB), (337, stillU trimB), (317, cloneU), (154, sortedU [316, 293, 219]), (72, colU [153, 207, 130])]
theorem nI : SoundI Tryz.prog J8 (fun _ => none) := fun _ _ h => by cases h
theorem nM : MonoI (fun _ => none) := fun _ _ h => by cases h
theorem PU_sound : ∀ f g, lkL PU f = some g → SoundF Tryz.prog J8 f (anySpecU g) := by
 refine lkL_ok (p := fun f g => SoundF Tryz.prog J8 f (anySpecU g)) fun x hx => ?_
 simp only [PU, List.mem_cons, List.not_mem_nil, or_false] at hx
 rcases hx with rfl | rfl | rfl | rfl | rfl
 · have e : Tryz.lays173_ren.f 173 = 336 := by kernel_rfl
   have h := fmtB_sound (J := J8) J8_free Tryz.lays173 (by rw [e]; exact Tryz.call336)
   rw [e] at h
   exact stillU_sound h fmtB_still
 · have e : Tryz.lays160_ren.f 160 = 337 := by kernel_rfl
   have h := trimB_sound (J := J8) J8_free Tryz.lays160 (by kernel_rfl) (by rw [e]; exact Tryz.call337)
   rw [e] at h
   exact stillU_sound h trimB_still
 · exact cloneU_sound (S.maps_clone nI nM)
 · refine sortedU_sound (fun g hg => ?_) (S.slices_Sorted_string nI nM)
   simp only [List.mem_cons, List.not_mem_nil, or_false] at hg
   rcases hg with rfl | rfl | rfl
   · exact .inl rfl
   · exact .inr (.inl rfl)
   · exact .inr (.inr rfl)
 · refine colU_sound (fun g hg => ?_) (S.slices_Collect_api_Id nI nM)
   simp only [List.mem_cons, List.not_mem_nil, or_false] at hg
   rcases hg with rfl | rfl | rfl
   · exact .inl rfl
   · exact .inr (.inl rfl)
   · exact .inr (.inr rfl)
set_option maxRecDepth 100000
theorem begun1 : SoundF Tryz.prog J8 239 TrueF := closedU mixed0 PU_sound W7.TB_ok 40 239 (by kernel_rfl)
def P1 := (239, trueU) :: PU
theorem P1_sound : ∀ f g, lkL P1 f = some g → SoundF Tryz.prog J8 f (anySpecU g) := moreU PU_sound begun1
theorem begun8 : SoundF Tryz.prog J8 103 TrueF := closedU mixed0 P1_sound W7.TB_ok 40 103 (by kernel_rfl)
theorem begun7 : SoundF Tryz.prog J8 240 TrueF := closedU mixed0 P1_sound W7.TB_ok 40 240 (by kernel_rfl)
def P7 := (240, trueU) :: P1
theorem P7_sound : ∀ f g, lkL P7 f = some g → SoundF Tryz.prog J8 f (anySpecU g) := moreU P1_sound begun7
theorem begun12 : SoundF Tryz.prog J8 104 TrueF := closedU mixed0 P7_sound W7.TB_ok 40 104 (by kernel_rfl)
end Go.Abs
set_option maxRecDepth 100000
namespace Go.Abs
open Go Go.Proofs
def PV : List (Nat × (List V → AHeap → Ans)) := (103, trueU) :: (104, trueU) :: P7
theorem PV_sound : ∀ f g, lkL PV f = some g → SoundF Tryz.prog J8 f (anySpecU g) := moreU (moreU P7_sound begun12) begun8
theorem begun14v : SoundF Tryz.prog J8 47 TrueF := closedU mixed0 PV_sound W7.TB_ok 60 47 (by kernel_rfl)
def PX : List (Nat × (List V → AHeap → Ans)) := (47, trueU) :: PV
theorem PX_sound : ∀ f g, lkL PX f = some g → SoundF Tryz.prog J8 f (anySpecU g) := moreU PV_sound begun14v
theorem begun15v : SoundF Tryz.prog J8 14 TrueF := closedU mixed0 PX_sound W7.TB_ok 60 14 (by kernel_rfl)
end Go.Abs
set_option maxRecDepth 20000
namespace Go.Abs
open Go Go.Proofs
abbrev J : World → Prop := J8
variable {I : FuncId → Option Spec}
theorem mixed : Tryz.prog.follows .mixedOrders = true := by kernel_rfl
theorem S.desk_New (hI : SoundI Tryz.prog J I) (mI : MonoI I) : SoundF Tryz.prog J 15 (F.desk_New ⟨I, kk⟩) := by
 refine SoundF.of_walk (I := lkI []) (lkI_sound trivial) (lkI_mono _) mixed W7.A.desk_New Tryz.func15 rfl (by kernel_rfl) (by kernel_rfl) Tryz.call15 fun args h K hs => ?_
 match args, hs with
 | [a0], hs => exact ⟨Nat.le_of_ble_eq_true (by kernel_rfl), Eq.mp (by kernel_rfl) hs⟩
theorem S.op_Client (hI : SoundI Tryz.prog J I) (mI : MonoI I) : SoundF Tryz.prog J 63 (F.op_Client ⟨I, kk⟩) := by
 refine SoundF.of_walk (I := lkI []) (lkI_sound trivial) (lkI_mono _) mixed W7.A.op_Client Tryz.func63 rfl (by kernel_rfl) (by kernel_rfl) Tryz.call63 fun args h K hs => ?_
 match args, hs with
 | [a0], hs => exact ⟨Nat.le_of_ble_eq_true (by kernel_rfl), Eq.mp (by kernel_rfl) hs⟩
theorem S.slices_IndexFunc_Sapi_Op_api_Op (hI : SoundI Tryz.prog J I) (mI : MonoI I) : SoundF Tryz.prog J 200 (F.slices_IndexFunc_Sapi_Op_api_Op ⟨I, kk⟩) := by
 refine SoundF.of_walk (I := I) hI mI mixed W7.A.slices_IndexFunc_Sapi_Op_api_Op Tryz.func200 rfl (by kernel_rfl) (by kernel_rfl) Tryz.call200 fun args h K hs => ?_
 match args, hs with
 | [a0, a1], hs => exact ⟨Nat.le_of_ble_eq_true (by kernel_rfl), Eq.mp (by kernel_rfl) hs⟩
theorem S.slices_ContainsFunc_Sapi_Op_api_Op (hI : SoundI Tryz.prog J I) (mI : MonoI I) : SoundF Tryz.prog J 125 (F.slices_ContainsFunc_Sapi_Op_api_Op ⟨I, kk⟩) := by
 refine SoundF.of_walk (I := lkI [(200, F.slices_IndexFunc_Sapi_Op_api_Op ⟨I, kk⟩)]) (lkI_sound ⟨S.slices_IndexFunc_Sapi_Op_api_Op hI mI, trivial⟩) (lkI_mono _) mixed W7.A.slices_ContainsFunc_Sapi_Op_api_Op Tryz.func125 rfl (by kernel_rfl) (by kernel_rfl) Tryz.call125 fun args h K hs => ?_
 match args, hs with
 | [a0, a1], hs => exact ⟨Nat.le_of_ble_eq_true (by kernel_rfl), Eq.mp (by kernel_rfl) hs⟩
theorem S.op_names (hI : SoundI Tryz.prog J I) (mI : MonoI I) : SoundF Tryz.prog J 201 (F.op_names ⟨I, kk⟩) := by
 refine SoundF.of_walk (I := lkI []) (lkI_sound trivial) (lkI_mono _) mixed W7.A.op_names Tryz.func201 rfl (by kernel_rfl) (by kernel_rfl) Tryz.call201 fun args h K hs => ?_
 match args, hs with
 | [a0], hs => exact ⟨Nat.le_of_ble_eq_true (by kernel_rfl), Eq.mp (by kernel_rfl) hs⟩
theorem S.strings_indexFunc (hI : SoundI Tryz.prog J I) (mI : MonoI I) : SoundF Tryz.prog J 295 (F.strings_indexFunc ⟨I, kk⟩) := by
 refine SoundF.of_walk (I := I) hI mI mixed W7.A.strings_indexFunc Tryz.func295 rfl (by kernel_rfl) (by kernel_rfl) Tryz.call295 fun args h K hs => ?_
 match args, hs with
 | [a0, a1, a2], hs => exact ⟨Nat.le_of_ble_eq_true (by kernel_rfl), Eq.mp (by kernel_rfl) hs⟩
theorem S.strings_IndexFunc (hI : SoundI Tryz.prog J I) (mI : MonoI I) : SoundF Tryz.prog J 268 (F.strings_IndexFunc ⟨I, kk⟩) := by
 refine SoundF.of_walk (I := lkI [(295, F.strings_indexFunc ⟨I, kk⟩)]) (lkI_sound ⟨S.strings_indexFunc hI mI, trivial⟩) (lkI_mono _) mixed W7.A.strings_IndexFunc Tryz.func268 rfl (by kernel_rfl) (by kernel_rfl) Tryz.call268 fun args h K hs => ?_
 match args, hs with
 | [a0, a1], hs => exact ⟨Nat.le_of_ble_eq_true (by kernel_rfl), Eq.mp (by kernel_rfl) hs⟩
theorem S.strings_ContainsFunc (hI : SoundI Tryz.prog J I) (mI : MonoI I) : SoundF Tryz.prog J 203 (F.strings_ContainsFunc ⟨I, kk⟩) := by
 refine SoundF.of_walk (I := lkI [(268, F.strings_IndexFunc ⟨I, kk⟩)]) (lkI_sound ⟨S.strings_IndexFunc hI mI, trivial⟩) (lkI_mono _) mixed W7.A.strings_ContainsFunc Tryz.func203 rfl (by kernel_rfl) (by kernel_rfl) Tryz.call203 fun args h K hs => ?_
 match args, hs with
 | [a0, a1], hs => exact ⟨Nat.le_of_ble_eq_true (by kernel_rfl), Eq.mp (by kernel_rfl) hs⟩
theorem S.op_makes (hI : SoundI Tryz.prog J I) (mI : MonoI I) : SoundF Tryz.prog J 204 (F.op_makes ⟨I, kk⟩) := by
 refine SoundF.of_walk (I := lkI []) (lkI_sound trivial) (lkI_mono _) mixed W7.A.op_makes Tryz.func204 rfl (by kernel_rfl) (by kernel_rfl) Tryz.call204 fun args h K hs => ?_
 match args, hs with
 | [a0], hs => exact ⟨Nat.le_of_ble_eq_true (by kernel_rfl), Eq.mp (by kernel_rfl) hs⟩
theorem S.op_May_1 (hI : SoundI Tryz.prog J I) (mI : MonoI I) : SoundF Tryz.prog J 202 (F.op_May_1 ⟨I, kk⟩) := by
 refine SoundF.of_walk (I := lkI []) (lkI_sound trivial) (lkI_mono _) mixed W7.A.op_May_1 Tryz.func202 rfl (by kernel_rfl) (by kernel_rfl) Tryz.call202 fun args h K hs => ?_
 match args, hs with
 | [a0], hs => exact ⟨Nat.le_of_ble_eq_true (by kernel_rfl), Eq.mp (by kernel_rfl) hs⟩
theorem S.op_May (hI : SoundI Tryz.prog J I) (mI : MonoI I) : SoundF Tryz.prog J 127 (F.op_May ⟨I, kk⟩) := by
 refine SoundF.of_walk (I := lkI [(201, F.op_names ⟨I, kk⟩), (203, F.strings_ContainsFunc ⟨I, kk⟩), (204, F.op_makes ⟨I, kk⟩)]) (lkI_sound ⟨S.op_names hI mI, S.strings_ContainsFunc hI mI, S.op_makes hI mI, trivial⟩) (lkI_mono _) mixed W7.A.op_May Tryz.func127 rfl (by kernel_rfl) (by kernel_rfl) Tryz.call127 fun args h K hs => ?_
 match args, hs with
 | [a0], hs => exact ⟨Nat.le_of_ble_eq_true (by kernel_rfl), Eq.mp (by kernel_rfl) hs⟩
theorem S.op_All_1 (hI : SoundI Tryz.prog J I) (mI : MonoI I) : SoundF Tryz.prog J 126 (F.op_All_1 ⟨I, kk⟩) := by
 refine SoundF.of_walk (I := lkI [(127, F.op_May ⟨I, kk⟩)]) (lkI_sound ⟨S.op_May hI mI, trivial⟩) (lkI_mono _) mixed W7.A.op_All_1 Tryz.func126 rfl (by kernel_rfl) (by kernel_rfl) Tryz.call126 fun args h K hs => ?_
 match args, hs with
 | [a0], hs => exact ⟨Nat.le_of_ble_eq_true (by kernel_rfl), Eq.mp (by kernel_rfl) hs⟩
theorem S.op_All (hI : SoundI Tryz.prog J I) (mI : MonoI I) : SoundF Tryz.prog J 64 (F.op_All ⟨I, kk⟩) := by
 refine SoundF.of_walk (I := lkI [(125, F.slices_ContainsFunc_Sapi_Op_api_Op ⟨I, kk⟩)]) (lkI_sound ⟨S.slices_ContainsFunc_Sapi_Op_api_Op hI mI, trivial⟩) (lkI_mono _) mixed W7.A.op_All Tryz.func64 rfl (by kernel_rfl) (by kernel_rfl) Tryz.call64 fun args h K hs => ?_
 match args, hs with
 | [a0], hs => exact ⟨Nat.le_of_ble_eq_true (by kernel_rfl), Eq.mp (by kernel_rfl) hs⟩
theorem S.slices_Clone_Sapi_Op_api_Op (hI : SoundI Tryz.prog J I) (mI : MonoI I) : SoundF Tryz.prog J 65 (F.slices_Clone_Sapi_Op_api_Op ⟨I, kk⟩) := by
 refine SoundF.of_walk (I := lkI []) (lkI_sound trivial) (lkI_mono _) mixed W7.A.slices_Clone_Sapi_Op_api_Op Tryz.func65 rfl (by kernel_rfl) (by kernel_rfl) Tryz.call65 fun args h K hs => ?_
 match args, hs with
 | [a0], hs => exact ⟨Nat.le_of_ble_eq_true (by kernel_rfl), Eq.mp (by kernel_rfl) hs⟩
theorem S.mark_Add (hI : SoundI Tryz.prog J I) (mI : MonoI I) : SoundF Tryz.prog J 296 (F.mark_Add ⟨I, kk⟩) := by
 refine SoundF.of_walk (I := lkI []) (lkI_sound trivial) (lkI_mono _) mixed W7.A.mark_Add Tryz.func296 rfl (by kernel_rfl) (by kernel_rfl) Tryz.call296 fun args h K hs => ?_
 match args, hs with
 | [a0, a1], hs => exact ⟨Nat.le_of_ble_eq_true (by kernel_rfl), Eq.mp (by kernel_rfl) hs⟩
theorem S.mark_Of (hI : SoundI Tryz.prog J I) (mI : MonoI I) : SoundF Tryz.prog J 269 (F.mark_Of ⟨I, kk⟩) := by
 refine SoundF.of_walk (I := lkI [(296, F.mark_Add ⟨I, kk⟩)]) (lkI_sound ⟨S.mark_Add hI mI, trivial⟩) (lkI_mono _) mixed W7.A.mark_Of Tryz.func269 rfl (by kernel_rfl) (by kernel_rfl) Tryz.call269 fun args h K hs => ?_
 match args, hs with
 | [a0], hs => exact ⟨Nat.le_of_ble_eq_true (by kernel_rfl), Eq.mp (by kernel_rfl) hs⟩
theorem S.mark_Shards (hI : SoundI Tryz.prog J I) (mI : MonoI I) : SoundF Tryz.prog J 205 (F.mark_Shards ⟨I, kk⟩) := by
 refine SoundF.of_walk (I := lkI [(269, F.mark_Of ⟨I, kk⟩)]) (lkI_sound ⟨S.mark_Of hI mI, trivial⟩) (lkI_mono _) mixed W7.A.mark_Shards Tryz.func205 rfl (by kernel_rfl) (by kernel_rfl) Tryz.call205 fun args h K hs => ?_
 match args, hs with
 | [a0, a1], hs => exact ⟨Nat.le_of_ble_eq_true (by kernel_rfl), Eq.mp (by kernel_rfl) hs⟩
theorem S.name_Shard (hI : SoundI Tryz.prog J I) (mI : MonoI I) : SoundF Tryz.prog J 128 (F.name_Shard ⟨I, kk⟩) := by
 refine SoundF.of_walk (I := lkI [(205, F.mark_Shards ⟨I, kk⟩)]) (lkI_sound ⟨S.mark_Shards hI mI, trivial⟩) (lkI_mono _) mixed W7.A.name_Shard Tryz.func128 rfl (by kernel_rfl) (by kernel_rfl) Tryz.call128 fun args h K hs => ?_
 match args, hs with
 | [a0, a1], hs => exact ⟨Nat.le_of_ble_eq_true (by kernel_rfl), Eq.mp (by kernel_rfl) hs⟩
theorem S.op_Parts (hI : SoundI Tryz.prog J I) (mI : MonoI I) : SoundF Tryz.prog J 66 (F.op_Parts ⟨I, kk⟩) := by
 refine SoundF.of_walk (I := lkI [(128, F.name_Shard ⟨I, kk⟩)]) (lkI_sound ⟨S.name_Shard hI mI, trivial⟩) (lkI_mono _) mixed W7.A.op_Parts Tryz.func66 rfl (by kernel_rfl) (by kernel_rfl) Tryz.call66 fun args h K hs => ?_
 match args, hs with
 | [a0, a1], hs => exact ⟨Nat.le_of_ble_eq_true (by kernel_rfl), Eq.mp (by kernel_rfl) hs⟩
theorem S.desk_Desk_Begin (hI : SoundI Tryz.prog J I) (mI : MonoI I) : SoundF Tryz.prog J 16 (F.desk_Desk_Begin ⟨I, kk⟩) := by
 refine SoundF.of_walk (I := lkI [(63, F.op_Client ⟨I, kk⟩), (64, F.op_All ⟨I, kk⟩), (65, F.slices_Clone_Sapi_Op_api_Op ⟨I, kk⟩), (66, F.op_Parts ⟨I, kk⟩)]) (lkI_sound ⟨S.op_Client hI mI, S.op_All hI mI, S.slices_Clone_Sapi_Op_api_Op hI mI, S.op_Parts hI mI, trivial⟩) (lkI_mono _) mixed W7.A.desk_Desk_Begin Tryz.func16 rfl (by kernel_rfl) (by kernel_rfl) Tryz.call16 fun args h K hs => ?_
 match args, hs with
 | [a0, a1, a2], hs => exact ⟨Nat.le_of_ble_eq_true (by kernel_rfl), Eq.mp (by kernel_rfl) hs⟩
theorem S.maps_Keys_map_api_Id_desk_trans_api_Id_desk_trans (hI : SoundI Tryz.prog J I) (mI : MonoI I) : SoundF Tryz.prog J 73 (F.maps_Keys_map_api_Id_desk_trans_api_Id_desk_trans ⟨I, kk⟩) := by
 refine SoundF.of_walk (I := lkI []) (lkI_sound trivial) (lkI_mono _) mixed W7.A.maps_Keys_map_api_Id_desk_trans_api_Id_desk_trans Tryz.func73 rfl (by kernel_rfl) (by kernel_rfl) Tryz.call73 fun args h K hs => ?_
 match args, hs with
 | [a0], hs => exact ⟨Nat.le_of_ble_eq_true (by kernel_rfl), Eq.mp (by kernel_rfl) hs⟩
theorem S.name_New (hI : SoundI Tryz.prog J I) (mI : MonoI I) : SoundF Tryz.prog J 71 (F.name_New ⟨I, kk⟩) := by
 refine SoundF.of_walk (I := lkI []) (lkI_sound trivial) (lkI_mono _) mixed W7.A.name_New Tryz.func71 rfl (by kernel_rfl) (by kernel_rfl) Tryz.call71 fun args h K hs => ?_
 match args, hs with
 | [a0], hs => exact ⟨Nat.le_of_ble_eq_true (by kernel_rfl), Eq.mp (by kernel_rfl) hs⟩
theorem S.maps_Keys_map_api_Id_bool_api_Id_bool (hI : SoundI Tryz.prog J I) (mI : MonoI I) : SoundF Tryz.prog J 132 (F.maps_Keys_map_api_Id_bool_api_Id_bool ⟨I, kk⟩) := by
 refine SoundF.of_walk (I := lkI []) (lkI_sound trivial) (lkI_mono _) mixed W7.A.maps_Keys_map_api_Id_bool_api_Id_bool Tryz.func132 rfl (by kernel_rfl) (by kernel_rfl) Tryz.call132 fun args h K hs => ?_
 match args, hs with
 | [a0], hs => exact ⟨Nat.le_of_ble_eq_true (by kernel_rfl), Eq.mp (by kernel_rfl) hs⟩
theorem S.math_bits_Len32 (hI : SoundI Tryz.prog J I) (mI : MonoI I) : SoundF Tryz.prog J 305 (F.math_bits_Len32 ⟨I, kk⟩) := by
 refine SoundF.of_walk (I := lkI []) (lkI_sound trivial) (lkI_mono _) mixed W7.A.math_bits_Len32 Tryz.func305 rfl (by kernel_rfl) (by kernel_rfl) Tryz.call305 fun args h K hs => ?_
 match args, hs with
 | [a0], hs => exact ⟨Nat.le_of_ble_eq_true (by kernel_rfl), Eq.mp (by kernel_rfl) hs⟩
theorem S.math_bits_Len64 (hI : SoundI Tryz.prog J I) (mI : MonoI I) : SoundF Tryz.prog J 306 (F.math_bits_Len64 ⟨I, kk⟩) := by
 refine SoundF.of_walk (I := lkI []) (lkI_sound trivial) (lkI_mono _) mixed W7.A.math_bits_Len64 Tryz.func306 rfl (by kernel_rfl) (by kernel_rfl) Tryz.call306 fun args h K hs => ?_
 match args, hs with
 | [a0], hs => exact ⟨Nat.le_of_ble_eq_true (by kernel_rfl), Eq.mp (by kernel_rfl) hs⟩
theorem S.math_bits_Len (hI : SoundI Tryz.prog J I) (mI : MonoI I) : SoundF Tryz.prog J 271 (F.math_bits_Len ⟨I, kk⟩) := by
 refine SoundF.of_walk (I := lkI [(305, F.math_bits_Len32 ⟨I, kk⟩), (306, F.math_bits_Len64 ⟨I, kk⟩)]) (lkI_sound ⟨S.math_bits_Len32 hI mI, S.math_bits_Len64 hI mI, trivial⟩) (lkI_mono _) mixed W7.A.math_bits_Len Tryz.func271 rfl (by kernel_rfl) (by kernel_rfl) Tryz.call271 fun args h K hs => ?_
 match args, hs with
 | [a0], hs => exact ⟨Nat.le_of_ble_eq_true (by kernel_rfl), Eq.mp (by kernel_rfl) hs⟩
theorem S.slices_insertionSortCmpFunc_api_Id (hI : SoundI Tryz.prog J I) (mI : MonoI I) : SoundF Tryz.prog J 297 (F.slices_insertionSortCmpFunc_api_Id ⟨I, kk⟩) := by
 refine SoundF.of_walk (I := I) hI mI mixed W7.A.slices_insertionSortCmpFunc_api_Id Tryz.func297 rfl (by kernel_rfl) (by kernel_rfl) Tryz.call297 fun args h K hs => ?_
 match args, hs with
 | [a0, a1, a2, a3], hs => exact ⟨Nat.le_of_ble_eq_true (by kernel_rfl), Eq.mp (by kernel_rfl) hs⟩
theorem Sr.slices_pdqsortCmpFunc_api_Id (hI : SoundI Tryz.prog J I) (mI : MonoI I) : ∀ fuel, SoundF Tryz.prog J 270 (Fr.slices_pdqsortCmpFunc_api_Id fuel ⟨I, kk⟩)
 | 0 => SoundF.no
 | fuel + 1 => by
  refine SoundF.of_walk (I := lkI [(297, F.slices_insertionSortCmpFunc_api_Id ⟨I, kk⟩), (270, Fr.slices_pdqsortCmpFunc_api_Id fuel ⟨I, kk⟩)]) (lkI_sound ⟨S.slices_insertionSortCmpFunc_api_Id hI mI, Sr.slices_pdqsortCmpFunc_api_Id hI mI fuel, trivial⟩) (lkI_mono _) mixed W7.A.slices_pdqsortCmpFunc_api_Id Tryz.func270 rfl (by kernel_rfl) (by kernel_rfl) Tryz.call270 fun args h K hs => ?_
  match args, hs with
  | [a0, a1, a2, a3, a4], hs => exact ⟨Nat.le_of_ble_eq_true (by kernel_rfl), Eq.mp (by kernel_rfl) hs⟩
theorem S.slices_pdqsortCmpFunc_api_Id (hI : SoundI Tryz.prog J I) (mI : MonoI I) : SoundF Tryz.prog J 270 (F.slices_pdqsortCmpFunc_api_Id ⟨I, kk⟩) := SoundF.ex (Sr.slices_pdqsortCmpFunc_api_Id hI mI)
theorem S.slices_SortFunc_Sapi_Id_api_Id (hI : SoundI Tryz.prog J I) (mI : MonoI I) : SoundF Tryz.prog J 206 (F.slices_SortFunc_Sapi_Id_api_Id ⟨I, kk⟩) := by
 refine SoundF.of_walk (I := lkI [(271, F.math_bits_Len ⟨I, kk⟩), (270, F.slices_pdqsortCmpFunc_api_Id ⟨I, kk⟩)]) (lkI_sound ⟨S.math_bits_Len hI mI, S.slices_pdqsortCmpFunc_api_Id hI mI, trivial⟩) (lkI_mono _) mixed W7.A.slices_SortFunc_Sapi_Id_api_Id Tryz.func206 rfl (by kernel_rfl) (by kernel_rfl) Tryz.call206 fun args h K hs => ?_
 match args, hs with
 | [a0, a1], hs => exact ⟨Nat.le_of_ble_eq_true (by kernel_rfl), Eq.mp (by kernel_rfl) hs⟩
theorem S.slices_SortedFunc_api_Id (hI : SoundI Tryz.prog J I) (mI : MonoI I) : SoundF Tryz.prog J 131 (F.slices_SortedFunc_api_Id ⟨I, kk⟩) := by
 refine SoundF.of_walk (I := lkI [(72, F.slices_Collect_api_Id ⟨I, kk⟩), (206, F.slices_SortFunc_Sapi_Id_api_Id ⟨I, kk⟩)]) (lkI_sound ⟨S.slices_Collect_api_Id hI mI, S.slices_SortFunc_Sapi_Id_api_Id hI mI, trivial⟩) (lkI_mono _) mixed W7.A.slices_SortedFunc_api_Id Tryz.func131 rfl (by kernel_rfl) (by kernel_rfl) Tryz.call131 fun args h K hs => ?_
 match args, hs with
 | [a0, a1], hs => exact ⟨Nat.le_of_ble_eq_true (by kernel_rfl), Eq.mp (by kernel_rfl) hs⟩
theorem S.cmp_isNaN_int (hI : SoundI Tryz.prog J I) (mI : MonoI I) : SoundF Tryz.prog J 272 (F.cmp_isNaN_int ⟨I, kk⟩) := by
 refine SoundF.of_walk (I := lkI []) (lkI_sound trivial) (lkI_mono _) mixed W7.A.cmp_isNaN_int Tryz.func272 rfl (by kernel_rfl) (by kernel_rfl) Tryz.call272 fun args h K hs => ?_
 match args, hs with
 | [a0], hs => exact ⟨Nat.le_of_ble_eq_true (by kernel_rfl), Eq.mp (by kernel_rfl) hs⟩
theorem S.cmp_Compare_int (hI : SoundI Tryz.prog J I) (mI : MonoI I) : SoundF Tryz.prog J 209 (F.cmp_Compare_int ⟨I, kk⟩) := by
 refine SoundF.of_walk (I := lkI [(272, F.cmp_isNaN_int ⟨I, kk⟩)]) (lkI_sound ⟨S.cmp_isNaN_int hI mI, trivial⟩) (lkI_mono _) mixed W7.A.cmp_Compare_int Tryz.func209 rfl (by kernel_rfl) (by kernel_rfl) Tryz.call209 fun args h K hs => ?_
 match args, hs with
 | [a0, a1], hs => exact ⟨Nat.le_of_ble_eq_true (by kernel_rfl), Eq.mp (by kernel_rfl) hs⟩
theorem S.cmp_isNaN_int64 (hI : SoundI Tryz.prog J I) (mI : MonoI I) : SoundF Tryz.prog J 273 (F.cmp_isNaN_int64 ⟨I, kk⟩) := by
 refine SoundF.of_walk (I := lkI []) (lkI_sound trivial) (lkI_mono _) mixed W7.A.cmp_isNaN_int64 Tryz.func273 rfl (by kernel_rfl) (by kernel_rfl) Tryz.call273 fun args h K hs => ?_
 match args, hs with
 | [a0], hs => exact ⟨Nat.le_of_ble_eq_true (by kernel_rfl), Eq.mp (by kernel_rfl) hs⟩
theorem S.cmp_Compare_int64 (hI : SoundI Tryz.prog J I) (mI : MonoI I) : SoundF Tryz.prog J 210 (F.cmp_Compare_int64 ⟨I, kk⟩) := by
 refine SoundF.of_walk (I := lkI [(273, F.cmp_isNaN_int64 ⟨I, kk⟩)]) (lkI_sound ⟨S.cmp_isNaN_int64 hI mI, trivial⟩) (lkI_mono _) mixed W7.A.cmp_Compare_int64 Tryz.func210 rfl (by kernel_rfl) (by kernel_rfl) Tryz.call210 fun args h K hs => ?_
 match args, hs with
 | [a0, a1], hs => exact ⟨Nat.le_of_ble_eq_true (by kernel_rfl), Eq.mp (by kernel_rfl) hs⟩
theorem S.cmp_Or_int (hI : SoundI Tryz.prog J I) (mI : MonoI I) : SoundF Tryz.prog J 208 (F.cmp_Or_int ⟨I, kk⟩) := by
 refine SoundF.of_walk (I := lkI []) (lkI_sound trivial) (lkI_mono _) mixed W7.A.cmp_Or_int Tryz.func208 rfl (by kernel_rfl) (by kernel_rfl) Tryz.call208 fun args h K hs => ?_
 match args, hs with
 | [a0], hs => exact ⟨Nat.le_of_ble_eq_true (by kernel_rfl), Eq.mp (by kernel_rfl) hs⟩
theorem S.name_order (hI : SoundI Tryz.prog J I) (mI : MonoI I) : SoundF Tryz.prog J 133 (F.name_order ⟨I, kk⟩) := by
 refine SoundF.of_walk (I := lkI [(209, F.cmp_Compare_int ⟨I, kk⟩), (210, F.cmp_Compare_int64 ⟨I, kk⟩), (208, F.cmp_Or_int ⟨I, kk⟩)]) (lkI_sound ⟨S.cmp_Compare_int hI mI, S.cmp_Compare_int64 hI mI, S.cmp_Or_int hI mI, trivial⟩) (lkI_mono _) mixed W7.A.name_order Tryz.func133 rfl (by kernel_rfl) (by kernel_rfl) Tryz.call133 fun args h K hs => ?_
 match args, hs with
 | [a0, a1], hs => exact ⟨Nat.le_of_ble_eq_true (by kernel_rfl), Eq.mp (by kernel_rfl) hs⟩
theorem S.name_Ids_All (hI : SoundI Tryz.prog J I) (mI : MonoI I) : SoundF Tryz.prog J 74 (F.name_Ids_All ⟨I, kk⟩) := by
 refine SoundF.of_walk (I := lkI [(132, F.maps_Keys_map_api_Id_bool_api_Id_bool ⟨I, kk⟩), (131, F.slices_SortedFunc_api_Id ⟨I, kk⟩)]) (lkI_sound ⟨S.maps_Keys_map_api_Id_bool_api_Id_bool hI mI, S.slices_SortedFunc_api_Id hI mI, trivial⟩) (lkI_mono _) mixed W7.A.name_Ids_All Tryz.func74 rfl (by kernel_rfl) (by kernel_rfl) Tryz.call74 fun args h K hs => ?_
 match args, hs with
 | [a0], hs => exact ⟨Nat.le_of_ble_eq_true (by kernel_rfl), Eq.mp (by kernel_rfl) hs⟩
theorem S.desk_Desk_Open (hI : SoundI Tryz.prog J I) (mI : MonoI I) : SoundF Tryz.prog J 20 (F.desk_Desk_Open ⟨I, kk⟩) := by
 refine SoundF.of_walk (I := lkI [(73, F.maps_Keys_map_api_Id_desk_trans_api_Id_desk_trans ⟨I, kk⟩), (72, F.slices_Collect_api_Id ⟨I, kk⟩), (71, F.name_New ⟨I, kk⟩), (74, F.name_Ids_All ⟨I, kk⟩)]) (lkI_sound ⟨S.maps_Keys_map_api_Id_desk_trans_api_Id_desk_trans hI mI, S.slices_Collect_api_Id hI mI, S.name_New hI mI, S.name_Ids_All hI mI, trivial⟩) (lkI_mono _) mixed W7.A.desk_Desk_Open Tryz.func20 rfl (by kernel_rfl) (by kernel_rfl) Tryz.call20 fun args h K hs => ?_
 match args, hs with
 | [a0], hs => exact ⟨Nat.le_of_ble_eq_true (by kernel_rfl), Eq.mp (by kernel_rfl) hs⟩
theorem S.desk_trans_has (hI : SoundI Tryz.prog J I) (mI : MonoI I) : SoundF Tryz.prog J 67 (F.desk_trans_has ⟨I, kk⟩) := by
 refine SoundF.of_walk (I := lkI []) (lkI_sound trivial) (lkI_mono _) mixed W7.A.desk_trans_has Tryz.func67 rfl (by kernel_rfl) (by kernel_rfl) Tryz.call67 fun args h K hs => ?_
 match args, hs with
 | [a0, a1], hs => exact ⟨Nat.le_of_ble_eq_true (by kernel_rfl), Eq.mp (by kernel_rfl) hs⟩
theorem S.desk_trans_shards (hI : SoundI Tryz.prog J I) (mI : MonoI I) : SoundF Tryz.prog J 69 (F.desk_trans_shards ⟨I, kk⟩) := by
 refine SoundF.of_walk (I := lkI [(67, F.desk_trans_has ⟨I, kk⟩)]) (lkI_sound ⟨S.desk_trans_has hI mI, trivial⟩) (lkI_mono _) mixed W7.A.desk_trans_shards Tryz.func69 rfl (by kernel_rfl) (by kernel_rfl) Tryz.call69 fun args h K hs => ?_
 match args, hs with
 | [a0], hs => exact ⟨Nat.le_of_ble_eq_true (by kernel_rfl), Eq.mp (by kernel_rfl) hs⟩
theorem S.op_bit (hI : SoundI Tryz.prog J I) (mI : MonoI I) : SoundF Tryz.prog J 211 (F.op_bit ⟨I, kk⟩) := by
 refine SoundF.of_walk (I := lkI []) (lkI_sound trivial) (lkI_mono _) mixed W7.A.op_bit Tryz.func211 rfl (by kernel_rfl) (by kernel_rfl) Tryz.call211 fun args h K hs => ?_
 match args, hs with
 | [a0], hs => exact ⟨Nat.le_of_ble_eq_true (by kernel_rfl), Eq.mp (by kernel_rfl) hs⟩
theorem S.op_Word (hI : SoundI Tryz.prog J I) (mI : MonoI I) : SoundF Tryz.prog J 134 (F.op_Word ⟨I, kk⟩) := by
 refine SoundF.of_walk (I := lkI [(63, F.op_Client ⟨I, kk⟩), (211, F.op_bit ⟨I, kk⟩)]) (lkI_sound ⟨S.op_Client hI mI, S.op_bit hI mI, trivial⟩) (lkI_mono _) mixed W7.A.op_Word Tryz.func134 rfl (by kernel_rfl) (by kernel_rfl) Tryz.call134 fun args h K hs => ?_
 match args, hs with
 | [a0, a1, a2, a3], hs => exact ⟨Nat.le_of_ble_eq_true (by kernel_rfl), Eq.mp (by kernel_rfl) hs⟩
theorem S.op_Of (hI : SoundI Tryz.prog J I) (mI : MonoI I) : SoundF Tryz.prog J 136 (F.op_Of ⟨I, kk⟩) := by
 refine SoundF.of_walk (I := lkI [(66, F.op_Parts ⟨I, kk⟩)]) (lkI_sound ⟨S.op_Parts hI mI, trivial⟩) (lkI_mono _) mixed W7.A.op_Of Tryz.func136 rfl (by kernel_rfl) (by kernel_rfl) Tryz.call136 fun args h K hs => ?_
 match args, hs with
 | [a0, a1, a2], hs => exact ⟨Nat.le_of_ble_eq_true (by kernel_rfl), Eq.mp (by kernel_rfl) hs⟩
theorem S.op_Put (hI : SoundI Tryz.prog J I) (mI : MonoI I) : SoundF Tryz.prog J 135 (F.op_Put ⟨I, kk⟩) := by
 refine SoundF.of_walk (I := lkI [(63, F.op_Client ⟨I, kk⟩), (64, F.op_All ⟨I, kk⟩)]) (lkI_sound ⟨S.op_Client hI mI, S.op_All hI mI, trivial⟩) (lkI_mono _) mixed W7.A.op_Put Tryz.func135 rfl (by kernel_rfl) (by kernel_rfl) Tryz.call135 fun args h K hs => ?_
 match args, hs with
 | [a0, a1, a2], hs => exact ⟨Nat.le_of_ble_eq_true (by kernel_rfl), Eq.mp (by kernel_rfl) hs⟩
theorem S.desk_Desk_wants (hI : SoundI Tryz.prog J I) (mI : MonoI I) : SoundF Tryz.prog J 75 (F.desk_Desk_wants ⟨I, kk⟩) := by
 refine SoundF.of_walk (I := lkI [(69, F.desk_trans_shards ⟨I, kk⟩), (134, F.op_Word ⟨I, kk⟩), (136, F.op_Of ⟨I, kk⟩), (135, F.op_Put ⟨I, kk⟩)]) (lkI_sound ⟨S.desk_trans_shards hI mI, S.op_Word hI mI, S.op_Of hI mI, S.op_Put hI mI, trivial⟩) (lkI_mono _) mixed W7.A.desk_Desk_wants Tryz.func75 rfl (by kernel_rfl) (by kernel_rfl) Tryz.call75 fun args h K hs => ?_
 match args, hs with
 | [a0, a1, a2], hs => exact ⟨Nat.le_of_ble_eq_true (by kernel_rfl), Eq.mp (by kernel_rfl) hs⟩
theorem S.desk_Desk_Wants (hI : SoundI Tryz.prog J I) (mI : MonoI I) : SoundF Tryz.prog J 21 (F.desk_Desk_Wants ⟨I, kk⟩) := by
 refine SoundF.of_walk (I := lkI [(20, F.desk_Desk_Open ⟨I, kk⟩), (75, F.desk_Desk_wants ⟨I, kk⟩)]) (lkI_sound ⟨S.desk_Desk_Open hI mI, S.desk_Desk_wants hI mI, trivial⟩) (lkI_mono _) mixed W7.A.desk_Desk_Wants Tryz.func21 rfl (by kernel_rfl) (by kernel_rfl) Tryz.call21 fun args h K hs => ?_
 match args, hs with
 | [a0], hs => exact ⟨Nat.le_of_ble_eq_true (by kernel_rfl), Eq.mp (by kernel_rfl) hs⟩
theorem S.slices_Clone_Sstring_string (hI : SoundI Tryz.prog J I) (mI : MonoI I) : SoundF Tryz.prog J 68 (F.slices_Clone_Sstring_string ⟨I, kk⟩) := by
 refine SoundF.of_walk (I := lkI []) (lkI_sound trivial) (lkI_mono _) mixed W7.A.slices_Clone_Sstring_string Tryz.func68 rfl (by kernel_rfl) (by kernel_rfl) Tryz.call68 fun args h K hs => ?_
 match args, hs with
 | [a0], hs => exact ⟨Nat.le_of_ble_eq_true (by kernel_rfl), Eq.mp (by kernel_rfl) hs⟩
def A.desk_Desk_keep : An := (.s (.s (.seq (.s (.join 75557863725914323158912 [] (.cond (.seq (.join 34359476224 [] (.draw #[0, 0, 2, 6, 14, 30, 62, 0, 128, 384, 896, 1920, 3968, 0, 8192, 24702, 57470, 131071, 262143, 524287] (.qs [0, 1, 2, 3, 4, 5, 7, 8, 9, 10, 11, 13] (.fork (.fork (.c 6 [10] (.fork (.c 12 [4] (.c 14 [4, 10] (.q 15 (.c 16 [10] (.q 17 (.q 18 (.c 19 [] .done))))))) (.c 14 [4, 10] (.q 15 (.fork (.c 12 [4] (.c 16 [10] (.q 17 (.q 18 (.c 19 [] .done))))) (.c 16 [10] (.c 12 [4] (.q 17 (.q 18 (.c 19 [] .done)))))))))) (.c 12 [4] (.fork (.c 6 [10] (.c 14 [4, 10] (.q 15 (.c 16 [10] (.q 17 (.q 18 (.c 19 [] .done))))))) (.c 14 [4, 10] (.c 6 [10] (.q 15 (.c 16 [10] (.q 17 (.q 18 (.c 19 [] .done)))))))))) (.c 14 [4, 10] (.fork (.c 6 [10] (.q 15 (.fork (.c 12 [4] (.c 16 [10] (.q 17 (.q 18 (.c 19 [] .done))))) (.c 16 [10] (.c 12 [4] (.q 17 (.q 18 (.c 19 [] .done)))))))) (.c 12 [4] (.c 6 [10] (.q 15 (.c 16 [10] (.q 17 (.q 18 (.c 19 [] .done))))))))))))) (.s (.block (.loop 75557863724814811793280 [] (.s (.seq (.cond .l .l) (.block (.s (.s (.block (.loop 75557854718715068679680 [53] (.s (.seq (.cond .l .l) (.seq (.block (.s (.draw #[0, 1, 0, 0, 8, 24, 56, 0, 0, 256, 0, 1792, 3840, 0, 8192, 8063, 40831, 131071, 262143] (.qs [0, 1, 2, 3, 4, 5, 6, 7, 8, 9, 10, 11, 12, 13, 14, 15] (.c 16 [14] (.q 17 (.c 18 [] .done))))))) .l)))))))))))))) .l))) (.seq (.draw #[0, 1, 3, 7, 0, 16, 63, 0, 128, 511, 1023] (.qs [0, 1, 2, 3, 4, 5, 6, 7] (.c 8 [3, 5, 6] (.c 9 [] (.q 10 .done))))) (.draw #[0, 1, 3, 7, 0, 16, 0, 0, 128, 384, 896, 1984, 4095] (.qs [0, 1, 2, 3, 4, 5, 6, 7, 8, 9, 10, 11] (.c 12 [] .done)))))))
theorem S.desk_Desk_keep (hI : SoundI Tryz.prog J I) (mI : MonoI I) : SoundF Tryz.prog J 70 (F.desk_Desk_keep ⟨I, kk⟩) := by
 refine SoundF.of_walk (I := lkI []) (lkI_sound trivial) (lkI_mono _) mixed A.desk_Desk_keep Tryz.func70 rfl (by kernel_rfl) (by kernel_rfl) Tryz.call70 fun args h K hs => ?_
 match args, hs with
 | [a0, a1, a2], hs => exact ⟨Nat.le_of_ble_eq_true (by kernel_rfl), Eq.mp (by kernel_rfl) hs⟩
theorem S.desk_Desk_Vote (hI : SoundI Tryz.prog J I) (mI : MonoI I) : SoundF Tryz.prog J 17 (F.desk_Desk_Vote ⟨I, kk⟩) := by
 refine SoundF.of_walk (I := lkI [(67, F.desk_trans_has ⟨I, kk⟩), (68, F.slices_Clone_Sstring_string ⟨I, kk⟩), (69, F.desk_trans_shards ⟨I, kk⟩), (70, F.desk_Desk_keep ⟨I, kk⟩)]) (lkI_sound ⟨S.desk_trans_has hI mI, S.slices_Clone_Sstring_string hI mI, S.desk_trans_shards hI mI, S.desk_Desk_keep hI mI, trivial⟩) (lkI_mono _) mixed W7.A.desk_Desk_Vote Tryz.func17 rfl (by kernel_rfl) (by kernel_rfl) Tryz.call17 fun args h K hs => ?_
 match args, hs with
 | [a0, a1], hs => exact ⟨Nat.le_of_ble_eq_true (by kernel_rfl), Eq.mp (by kernel_rfl) hs⟩
theorem S.desk_Desk_Done (hI : SoundI Tryz.prog J I) (mI : MonoI I) : SoundF Tryz.prog J 18 (F.desk_Desk_Done ⟨I, kk⟩) := by
 refine SoundF.of_walk (I := lkI [(67, F.desk_trans_has ⟨I, kk⟩), (69, F.desk_trans_shards ⟨I, kk⟩)]) (lkI_sound ⟨S.desk_trans_has hI mI, S.desk_trans_shards hI mI, trivial⟩) (lkI_mono _) mixed W7.A.desk_Desk_Done Tryz.func18 rfl (by kernel_rfl) (by kernel_rfl) Tryz.call18 fun args h K hs => ?_
 match args, hs with
 | [a0, a1, a2], hs => exact ⟨Nat.le_of_ble_eq_true (by kernel_rfl), Eq.mp (by kernel_rfl) hs⟩
theorem S.estafetteref12_Client (hI : SoundI Tryz.prog J I) (mI : MonoI I) : SoundF Tryz.prog J 29 (F.estafetteref12_Client ⟨I, kk⟩) := by
 refine SoundF.of_walk (I := lkI []) (lkI_sound trivial) (lkI_mono _) mixed W7.A.estafetteref12_Client Tryz.func29 rfl (by kernel_rfl) (by kernel_rfl) Tryz.call29 fun args h K hs => ?_
 match args, hs with
 | [a0], hs => exact ⟨Nat.le_of_ble_eq_true (by kernel_rfl), Eq.mp (by kernel_rfl) hs⟩
theorem S.estafetteref12_small (hI : SoundI Tryz.prog J I) (mI : MonoI I) : SoundF Tryz.prog J 137 (F.estafetteref12_small ⟨I, kk⟩) := by
 refine SoundF.of_walk (I := lkI []) (lkI_sound trivial) (lkI_mono _) mixed W7.A.estafetteref12_small Tryz.func137 rfl (by kernel_rfl) (by kernel_rfl) Tryz.call137 fun args h K hs => ?_
 match args, hs with
 | [a0], hs => exact ⟨Nat.le_of_ble_eq_true (by kernel_rfl), Eq.mp (by kernel_rfl) hs⟩
theorem S.estafetteref12_May (hI : SoundI Tryz.prog J I) (mI : MonoI I) : SoundF Tryz.prog J 76 (F.estafetteref12_May ⟨I, kk⟩) := by
 refine SoundF.of_walk (I := lkI [(137, F.estafetteref12_small ⟨I, kk⟩)]) (lkI_sound ⟨S.estafetteref12_small hI mI, trivial⟩) (lkI_mono _) mixed W7.A.estafetteref12_May Tryz.func76 rfl (by kernel_rfl) (by kernel_rfl) Tryz.call76 fun args h K hs => ?_
 match args, hs with
 | [a0], hs => exact ⟨Nat.le_of_ble_eq_true (by kernel_rfl), Eq.mp (by kernel_rfl) hs⟩
theorem S.estafetteref12_All (hI : SoundI Tryz.prog J I) (mI : MonoI I) : SoundF Tryz.prog J 23 (F.estafetteref12_All ⟨I, kk⟩) := by
 refine SoundF.of_walk (I := lkI [(76, F.estafetteref12_May ⟨I, kk⟩)]) (lkI_sound ⟨S.estafetteref12_May hI mI, trivial⟩) (lkI_mono _) mixed W7.A.estafetteref12_All Tryz.func23 rfl (by kernel_rfl) (by kernel_rfl) Tryz.call23 fun args h K hs => ?_
 match args, hs with
 | [a0], hs => exact ⟨Nat.le_of_ble_eq_true (by kernel_rfl), Eq.mp (by kernel_rfl) hs⟩
theorem S.estafetteref12_Put (hI : SoundI Tryz.prog J I) (mI : MonoI I) : SoundF Tryz.prog J 34 (F.estafetteref12_Put ⟨I, kk⟩) := by
 refine SoundF.of_walk (I := lkI [(29, F.estafetteref12_Client ⟨I, kk⟩), (23, F.estafetteref12_All ⟨I, kk⟩)]) (lkI_sound ⟨S.estafetteref12_Client hI mI, S.estafetteref12_All hI mI, trivial⟩) (lkI_mono _) mixed W7.A.estafetteref12_Put Tryz.func34 rfl (by kernel_rfl) (by kernel_rfl) Tryz.call34 fun args h K hs => ?_
 match args, hs with
 | [a0, a1, a2], hs => exact ⟨Nat.le_of_ble_eq_true (by kernel_rfl), Eq.mp (by kernel_rfl) hs⟩
theorem S.estafettelaw15_begun (_ : SoundI Tryz.prog J I) (_ : MonoI I) : SoundF Tryz.prog J 14 (F.estafettelaw15_begun ⟨I, kk⟩) := begun15v
def A.estafettelaw12_Ops : An := (.s (.s .l))
theorem S.estafettelaw12_Ops (hI : SoundI Tryz.prog J I) (mI : MonoI I) : SoundF Tryz.prog J 22 (F.estafettelaw12_Ops ⟨I, kk⟩) := by
 refine SoundF.of_walk (I := lkI []) (lkI_sound trivial) (lkI_mono _) mixed A.estafettelaw12_Ops Tryz.func22 rfl (by kernel_rfl) (by kernel_rfl) Tryz.call22 fun args h K hs => ?_
 match args, hs with
 | [a0], hs => exact ⟨Nat.le_of_ble_eq_true (by kernel_rfl), Eq.mp (by kernel_rfl) hs⟩
def A.estafetteref1_Add : An := (.s (.s (.seq (.s (.block (.loop 4294951136 [5, 6, 7] (.seq (.s (.cond .l .l)) (.seq (.block (.s .l)) .l))))) (.s .l))))
theorem S.estafetteref1_Add (hI : SoundI Tryz.prog J I) (mI : MonoI I) : SoundF Tryz.prog J 212 (F.estafetteref1_Add ⟨I, kk⟩) := by
 refine SoundF.of_walk (I := lkI []) (lkI_sound trivial) (lkI_mono _) mixed A.estafetteref1_Add Tryz.func212 rfl (by kernel_rfl) (by kernel_rfl) Tryz.call212 fun args h K hs => ?_
 match args, hs with
 | [a0, a1], hs => exact ⟨Nat.le_of_ble_eq_true (by kernel_rfl), Eq.mp (by kernel_rfl) hs⟩
def A.estafetteref1_Mark : An := (.s (.s .l))
theorem S.estafetteref1_Mark (hI : SoundI Tryz.prog J I) (mI : MonoI I) : SoundF Tryz.prog J 138 (F.estafetteref1_Mark ⟨I, kk⟩) := by
 refine SoundF.of_walk (I := lkI [(212, F.estafetteref1_Add ⟨I, kk⟩)]) (lkI_sound ⟨S.estafetteref1_Add hI mI, trivial⟩) (lkI_mono _) mixed A.estafetteref1_Mark Tryz.func138 rfl (by kernel_rfl) (by kernel_rfl) Tryz.call138 fun args h K hs => ?_
 match args, hs with
 | [a0], hs => exact ⟨Nat.le_of_ble_eq_true (by kernel_rfl), Eq.mp (by kernel_rfl) hs⟩
def A.estafetteref1_Shard : An := (.s (.seq (.s (.cond (.s .l) .l)) (.s .l)))
theorem S.estafetteref1_Shard (hI : SoundI Tryz.prog J I) (mI : MonoI I) : SoundF Tryz.prog J 77 (F.estafetteref1_Shard ⟨I, kk⟩) := by
 refine SoundF.of_walk (I := lkI [(138, F.estafetteref1_Mark ⟨I, kk⟩)]) (lkI_sound ⟨S.estafetteref1_Mark hI mI, trivial⟩) (lkI_mono _) mixed A.estafetteref1_Shard Tryz.func77 rfl (by kernel_rfl) (by kernel_rfl) Tryz.call77 fun args h K hs => ?_
 match args, hs with
 | [a0, a1], hs => exact ⟨Nat.le_of_ble_eq_true (by kernel_rfl), Eq.mp (by kernel_rfl) hs⟩
def A.estafetteref12_Parts : An := (.s (.seq (.s (.cond (.s .l) .l)) (.s (.seq (.s (.block (.loop 549755748544 [6] (.seq (.s (.cond .l .l)) (.seq (.block (.s .l)) .l))))) (.s .l)))))
theorem S.estafetteref12_Parts (hI : SoundI Tryz.prog J I) (mI : MonoI I) : SoundF Tryz.prog J 24 (F.estafetteref12_Parts ⟨I, kk⟩) := by
 refine SoundF.of_walk (I := lkI [(77, F.estafetteref1_Shard ⟨I, kk⟩)]) (lkI_sound ⟨S.estafetteref1_Shard hI mI, trivial⟩) (lkI_mono _) mixed A.estafetteref12_Parts Tryz.func24 rfl (by kernel_rfl) (by kernel_rfl) Tryz.call24 fun args h K hs => ?_
 match args, hs with
 | [a0, a1], hs => exact ⟨Nat.le_of_ble_eq_true (by kernel_rfl), Eq.mp (by kernel_rfl) hs⟩
def A.estafetteref12_in : An := (.s (.s .l))
theorem S.estafetteref12_in (hI : SoundI Tryz.prog J I) (mI : MonoI I) : SoundF Tryz.prog J 78 (F.estafetteref12_in ⟨I, kk⟩) := by
 refine SoundF.of_walk (I := lkI []) (lkI_sound trivial) (lkI_mono _) mixed A.estafetteref12_in Tryz.func78 rfl (by kernel_rfl) (by kernel_rfl) Tryz.call78 fun args h K hs => ?_
 match args, hs with
 | [a0, a1, a2], hs => exact ⟨Nat.le_of_ble_eq_true (by kernel_rfl), Eq.mp (by kernel_rfl) hs⟩
def A.estafetteref12_Get : An := (.s (.s (.seq (.s (.cond (.s .l) .l)) (.seq (.draw #[0, 1, 3, 7, 0, 16, 48, 112, 255, 0, 1023] (.qs [0, 1, 2, 3, 4, 5, 6, 7, 8] (.c 9 [1, 3, 5, 7] (.c 10 [] .done)))) (.s (.seq (.s (.block (.loop 2535301200456458521518429700504 [7, 8] (.seq (.s (.cond .l .l)) (.seq (.block (.seq (.s (.cond (.s .l) .l)) (.draw #[0, 0, 2, 0, 8, 24, 62, 126, 0, 256, 0, 1024, 3072, 7936, 16128, 0, 32768, 0, 131072, 491520, 1015808, 0, 2097152, 0, 8388608, 25165824, 65011712, 132120576, 0, 268435456, 0, 1073741824, 3221225472, 8321499136, 16911433728, 34359738366, 68719476734, 137438953471, 274877906943] (.qs [0, 1, 2, 3, 4, 5, 6, 7, 8, 9, 10, 11, 12, 13, 14, 15, 16, 17, 18, 19, 20, 21, 22, 23, 24, 25, 26, 27, 28, 29, 30, 31, 32, 33, 34, 35] (.c 36 [] (.c 37 [] (.q 38 .done))))))) .l))))) (.seq (.s (.s (.cond (.s .l) .l))) (.s .l))))))))
theorem S.estafetteref12_Get (hI : SoundI Tryz.prog J I) (mI : MonoI I) : SoundF Tryz.prog J 25 (F.estafetteref12_Get ⟨I, kk⟩) := by
 refine SoundF.of_walk (I := lkI [(78, F.estafetteref12_in ⟨I, kk⟩), (34, F.estafetteref12_Put ⟨I, kk⟩)]) (lkI_sound ⟨S.estafetteref12_in hI mI, S.estafetteref12_Put hI mI, trivial⟩) (lkI_mono _) mixed A.estafetteref12_Get Tryz.func25 rfl (by kernel_rfl) (by kernel_rfl) Tryz.call25 fun args h K hs => ?_
 match args, hs with
 | [a0], hs => exact ⟨Nat.le_of_ble_eq_true (by kernel_rfl), Eq.mp (by kernel_rfl) hs⟩
def A.estafetteref12_Of : An := (.s (.s (.s (.seq (.s (.block (.loop 35184372081280 [7, 9] (.seq (.s (.cond .l .l)) (.seq (.block .l) .l))))) (.s .l)))))
theorem S.estafetteref12_Of (hI : SoundI Tryz.prog J I) (mI : MonoI I) : SoundF Tryz.prog J 27 (F.estafetteref12_Of ⟨I, kk⟩) := by
 refine SoundF.of_walk (I := lkI [(24, F.estafetteref12_Parts ⟨I, kk⟩)]) (lkI_sound ⟨S.estafetteref12_Parts hI mI, trivial⟩) (lkI_mono _) mixed A.estafetteref12_Of Tryz.func27 rfl (by kernel_rfl) (by kernel_rfl) Tryz.call27 fun args h K hs => ?_
 match args, hs with
 | [a0, a1, a2], hs => exact ⟨Nat.le_of_ble_eq_true (by kernel_rfl), Eq.mp (by kernel_rfl) hs⟩
def A.estafettelaw12_Eq : An := (.s (.seq (.s (.cond (.s .l) .l)) (.seq (.s (.block (.loop 67106864 [5] (.seq (.s (.cond .l .l)) (.seq (.block (.seq (.draw #[0, 0, 3, 7, 0, 0, 48, 112, 255] (.qs [0, 1, 2, 3, 4, 5, 6, 7, 8] .done)) (.cond (.s .l) .l))) .l))))) (.s .l))))
theorem S.estafettelaw12_Eq (hI : SoundI Tryz.prog J I) (mI : MonoI I) : SoundF Tryz.prog J 26 (F.estafettelaw12_Eq ⟨I, kk⟩) := by
 refine SoundF.of_walk (I := lkI []) (lkI_sound trivial) (lkI_mono _) mixed A.estafettelaw12_Eq Tryz.func26 rfl (by kernel_rfl) (by kernel_rfl) Tryz.call26 fun args h K hs => ?_
 match args, hs with
 | [a0, a1], hs => exact ⟨Nat.le_of_ble_eq_true (by kernel_rfl), Eq.mp (by kernel_rfl) hs⟩
def A.estafetteref12_flag : An := (.s (.seq (.s (.cond (.s .l) .l)) (.s .l)))
theorem S.estafetteref12_flag (hI : SoundI Tryz.prog J I) (mI : MonoI I) : SoundF Tryz.prog J 102 (F.estafetteref12_flag ⟨I, kk⟩) := by
 refine SoundF.of_walk (I := lkI []) (lkI_sound trivial) (lkI_mono _) mixed A.estafetteref12_flag Tryz.func102 rfl (by kernel_rfl) (by kernel_rfl) Tryz.call102 fun args h K hs => ?_
 match args, hs with
 | [a0], hs => exact ⟨Nat.le_of_ble_eq_true (by kernel_rfl), Eq.mp (by kernel_rfl) hs⟩
def A.estafetteref12_Word : An := (.s (.seq (.s (.cond (.s .l) .l)) (.seq (.draw #[0, 0, 2, 0, 8, 0, 0, 64, 254, 511, 1023, 2047] (.qs [0, 1, 2, 3, 4, 5, 6] (.c 7 [2, 4] (.c 8 [] (.q 9 (.c 10 [] (.q 11 .done))))))) .l)))
theorem S.estafetteref12_Word (hI : SoundI Tryz.prog J I) (mI : MonoI I) : SoundF Tryz.prog J 46 (F.estafetteref12_Word ⟨I, kk⟩) := by
 refine SoundF.of_walk (I := lkI [(29, F.estafetteref12_Client ⟨I, kk⟩), (78, F.estafetteref12_in ⟨I, kk⟩), (102, F.estafetteref12_flag ⟨I, kk⟩)]) (lkI_sound ⟨S.estafetteref12_Client hI mI, S.estafetteref12_in hI mI, S.estafetteref12_flag hI mI, trivial⟩) (lkI_mono _) mixed A.estafetteref12_Word Tryz.func46 rfl (by kernel_rfl) (by kernel_rfl) Tryz.call46 fun args h K hs => ?_
 match args, hs with
 | [a0, a1, a2, a3], hs => exact ⟨Nat.le_of_ble_eq_true (by kernel_rfl), Eq.mp (by kernel_rfl) hs⟩
def A.estafetteref12_GetWord : An := (.s (.seq (.s (.cond (.s .l) .l)) (.seq (.draw #[0, 1, 3, 7, 0, 16, 48, 112, 255, 0, 1023] (.qs [0, 1, 2, 3, 4, 5, 6, 7, 8] (.c 9 [1, 3, 5, 7] (.c 10 [] .done)))) (.seq (.seq (.draw #[0, 1, 0, 0, 8, 24, 56, 127, 255, 511, 511, 0, 3071, 8191] (.qs [0, 1, 2, 3, 4, 5, 6] (.fork (.c 7 [] (.qs [8, 9, 10] (.c 11 [1, 2, 4, 6] (.c 12 [] (.q 13 .done))))) (.c 11 [1, 2, 4, 6] (.c 7 [] (.qs [8, 9, 10] (.c 12 [] (.q 13 .done)))))))) (.s (.cond (.s .l) .l))) (.seq (.draw #[0, 0, 2, 6, 14, 0, 32, 96, 224, 480, 1, 1055, 4095, 8191] (.qs [0, 1, 2, 3, 4, 5, 6, 7, 8, 9] (.c 10 [2, 4, 6, 8] (.qs [11, 12, 13] .done)))) .l)))))
theorem S.estafetteref12_GetWord (hI : SoundI Tryz.prog J I) (mI : MonoI I) : SoundF Tryz.prog J 28 (F.estafetteref12_GetWord ⟨I, kk⟩) := by
 refine SoundF.of_walk (I := lkI [(78, F.estafetteref12_in ⟨I, kk⟩), (46, F.estafetteref12_Word ⟨I, kk⟩)]) (lkI_sound ⟨S.estafetteref12_in hI mI, S.estafetteref12_Word hI mI, trivial⟩) (lkI_mono _) mixed A.estafetteref12_GetWord Tryz.func28 rfl (by kernel_rfl) (by kernel_rfl) Tryz.call28 fun args h K hs => ?_
 match args, hs with
 | [a0], hs => exact ⟨Nat.le_of_ble_eq_true (by kernel_rfl), Eq.mp (by kernel_rfl) hs⟩
end Go.Abs
namespace Go.Abs
open Go Go.Proofs
def Z0 : FE := ⟨fun _ => none, kk⟩
def Z1 : FE := ⟨lkI [(202, F.op_May_1 Z0)], kk⟩
def IE : FuncId → Option Spec := lkI [(126, F.op_All_1 Z1), (202, F.op_May_1 Z0), (133, F.name_order Z0)]
def EE : FE := ⟨IE, kk⟩
theorem none_s : SoundI Tryz.prog J (fun _ => none) := fun _ _ h => by cases h
theorem none_m : MonoI (fun _ => none) := fun _ _ h => by cases h
theorem Z1_s : SoundI Tryz.prog J Z1.I := lkI_sound ⟨S.op_May_1 none_s none_m, trivial⟩
theorem Z1_m : MonoI Z1.I := lkI_mono _
theorem IE_sound : SoundI Tryz.prog J IE := lkI_sound ⟨S.op_All_1 Z1_s Z1_m, S.op_May_1 none_s none_m, S.name_order none_s none_m, trivial⟩
theorem IE_mono : MonoI IE := lkI_mono _
theorem dkeE : DkE EE := ⟨⟨IE_mono, ⟨Z1, rfl, Z1_m, Z0, rfl⟩, ⟨Z0, rfl⟩⟩, ⟨Z0, rfl⟩⟩
end Go.Abs

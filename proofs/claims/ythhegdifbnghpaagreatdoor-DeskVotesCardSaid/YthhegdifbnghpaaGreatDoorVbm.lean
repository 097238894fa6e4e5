/- What is closed in the laws below: estafettelaw8.Begun, estafettelaw12.Begun: the kernel runs them. -/
import Derived.Test.YthhegdifbnghpaaGreatDoorVar
import Derived.Test.YthhegdifbnghpaaGreatDoorVbf
import Derived.Test.YthhegdifbnghpaaGreatDoorVbg
import Derived.Test.YthhegdifbnghpaaGreatDoorVap
import Derived.Test.YthhegdifbnghpaaGreatDoorVbk
import Derived.Test.YthhegdifbnghpaaGreatDoorVas
import Derived.Test.YthhegdifbnghpaaGreatDoorProg
import Derived.Test.YthhegdifbnghpaaGreatDoorVbb
set_option linter.unusedSimpArgs false
set_option linter.unusedVariables false
namespace Go.Abs
open Go Go.Proofs
theorem mixed0 : Tryz.prog.follows .mixedOrders = true := by kernel_rfl
def PU : List (Nat × (List V → AHeap → Ans)) := [(336, stillU fmtB), (337, stillU trimB), (317, cloneU), (154, sortedU [316, 293, 219]), (72, colU [153, 207, 130])]
theorem nI : SoundI Tryz.prog J8 (fun _ => none) := fun _ _ h => by cases h
theorem nM : MonoI (fun _ => none) := fun _ _ h => by cases h
theorem PU_sound : ∀ f g, lkL PU f = some g → SoundF Tryz.prog J8 f (anySpecU g) := by
 refine lkL_ok (p := fun f g => SoundF Tryz.prog J8 f (anySpecU g)) fun x hx => ?_
 simp only [PU, List.mem_cons, List.not_mem_nil, or_false] at hx
 rcases hx with rfl | rfl | rfl | rfl | rfl
 · have e : Tryz.lays173_ren.f 173 = 336 := by kernel_rfl
   have h := fmtB_sound (J := J8) J8_free Tryz.lays173 (by rw [e]; exact Tryz.call336)
   rw [e] at h
   exact stillU_sound h fmtB_still
 · have e : Tryz.lays160_ren.f 160 = 337 := by kernel_rfl
   have h := trimB_sound (J := J8) J8_free Tryz.lays160 (by kernel_rfl) (by rw [e]; exact Tryz.call337)
   rw [e] at h
   exact stillU_sound h trimB_still
 · exact cloneU_sound (S.maps_clone nI nM)
 · refine sortedU_sound (fun g hg => ?_) (S.slices_Sorted_string nI nM)
   simp only [List.mem_cons, List.not_mem_nil, or_false] at hg
   rcases hg with rfl | rfl | rfl
   · exact .inl rfl
   · exact .inr (.inl rfl)
   · exact .inr (.inr rfl)
 · refine colU_sound (fun g hg => ?_) (S.slices_Collect_api_Id nI nM)
   simp only [List.mem_cons, List.not_mem_nil, or_false] at hg
   rcases hg with rfl | rfl | rfl
   · exact .inl rfl
   · exact .inr (.inl rfl)
   · exact .inr (.inr rfl)
set_option maxRecDepth 100000
theorem begun1 : SoundF Tryz.prog J8 239 TrueF := closedU mixed0 PU_sound W7.TB_ok 40 239 (by kernel_rfl)
def P1 := (239, trueU) :: PU
theorem P1_sound : ∀ f g, lkL P1 f = some g → SoundF Tryz.prog J8 f (anySpecU g) := moreU PU_sound begun1
theorem begun8 : SoundF Tryz.prog J8 103 TrueF := closedU mixed0 P1_sound W7.TB_ok 40 103 (by kernel_rfl)
theorem begun7 : SoundF Tryz.prog J8 240 TrueF := closedU mixed0 P1_sound W7.TB_ok 40 240 (by kernel_rfl)
def P7 := (240, trueU) :: P1
theorem P7_sound : ∀ f g, lkL P7 f = some g → SoundF Tryz.prog J8 f (anySpecU g) := moreU P1_sound begun7
theorem begun12 : SoundF Tryz.prog J8 104 TrueF := closedU mixed0 P7_sound W7.TB_ok 40 104 (by kernel_rfl)
end Go.Abs
set_option maxRecDepth 100000
namespace Go.Abs
open Go Go.Proofs
def PV : List (Nat × (List V → AHeap → Ans)) := (103, trueU) :: (104, trueU) :: P7
theorem PV_sound : ∀ f g, lkL PV f = some g → SoundF Tryz.prog J8 f (anySpecU g) := moreU (moreU P7_sound begun12) begun8
theorem begun14v : SoundF Tryz.prog J8 47 TrueF := closedU mixed0 PV_sound W7.TB_ok 60 47 (by kernel_rfl)
def PX : List (Nat × (List V → AHeap → Ans)) := (47, trueU) :: PV
theorem PX_sound : ∀ f g, lkL PX f = some g → SoundF Tryz.prog J8 f (anySpecU g) := moreU PV_sound begun14v
theorem begun15v : SoundF Tryz.prog J8 14 TrueF := closedU mixed0 PX_sound W7.TB_ok 60 14 (by kernel_rfl)
end Go.Abs
set_option maxRecDepth 20000
namespace Go.Abs
open Go Go.Proofs
abbrev J : World → Prop := J8
variable {I : FuncId → Option Spec}
theorem mixed : Tryz.prog.follows .mixedOrders = true := by kernel_rfl
theorem S.desk_New (hI : SoundI Tryz.prog J I) (mI : MonoI I) : SoundF Tryz.prog J 15 (F.desk_New ⟨I, kk⟩) := by
 refine SoundF.of_walk (I := lkI []) (lkI_sound trivial) (lkI_mono _) mixed W7.A.desk_New Tryz.func15 rfl (by kernel_rfl) (by kernel_rfl) Tryz.call15 fun args h K hs => ?_
 match args, hs with
 | [a0], hs => exact ⟨Nat.le_of_ble_eq_true (by kernel_rfl), Eq.mp (by kernel_rfl) hs⟩
theorem S.op_Client (hI : SoundI Tryz.prog J I) (mI : MonoI I) : SoundF Tryz.prog J 63 (F.op_Client ⟨I, kk⟩) := by
 refine SoundF.of_walk (I := lkI []) (lkI_sound trivial) (lkI_mono _) mixed W7.A.op_Client Tryz.func63 rfl (by kernel_rfl) (by kernel_rfl) Tryz.call63 fun args h K hs => ?_
 match args, hs with
 | [a0], hs => exact ⟨Nat.le_of_ble_eq_true (by kernel_rfl), Eq.mp (by kernel_rfl) hs⟩
theorem S.slices_IndexFunc_Sapi_Op_api_Op (hI : SoundI Tryz.prog J I) (mI : MonoI I) : SoundF Tryz.prog J 200 (F.slices_IndexFunc_Sapi_Op_api_Op ⟨I, kk⟩) := by
 refine SoundF.of_walk (I := I) hI mI mixed W7.A.slices_IndexFunc_Sapi_Op_api_Op Tryz.func200 rfl (by kernel_rfl) (by kernel_rfl) Tryz.call200 fun args h K hs => ?_
 match args, hs with
 | [a0, a1], hs => exact ⟨Nat.le_of_ble_eq_true (by kernel_rfl), Eq.mp (by kernel_rfl) hs⟩
theorem S.slices_ContainsFunc_Sapi_Op_api_Op (hI : SoundI Tryz.prog J I) (mI : MonoI I) : SoundF Tryz.prog J 125 (F.slices_ContainsFunc_Sapi_Op_api_Op ⟨I, kk⟩) := by
 refine SoundF.of_walk (I := lkI [(200, F.slices_IndexFunc_Sapi_Op_api_Op ⟨I, kk⟩)]) (lkI_sound ⟨S.slices_IndexFunc_Sapi_Op_api_Op hI mI, trivial⟩) (lkI_mono _) mixed W7.A.slices_ContainsFunc_Sapi_Op_api_Op Tryz.func125 rfl (by kernel_rfl) (by kernel_rfl) Tryz.call125 fun args h K hs => ?_
 match args, hs with
 | [a0, a1], hs => exact ⟨Nat.le_of_ble_eq_true (by kernel_rfl), Eq.mp (by kernel_rfl) hs⟩
theorem S.op_names (hI : SoundI Tryz.prog J I) (mI : MonoI I) : SoundF Tryz.prog J 201 (F.op_names ⟨I, kk⟩) := by
 refine SoundF.of_walk (I := lkI []) (lkI_sound trivial) (lkI_mono _) mixed W7.A.op_names Tryz.func201 rfl (by kernel_rfl) (by kernel_rfl) Tryz.call201 fun args h K hs => ?_
 match args, hs with
 | [a0], hs => exact ⟨Nat.le_of_ble_eq_true (by kernel_rfl), Eq.mp (by kernel_rfl) hs⟩
theorem S.strings_indexFunc (hI : SoundI Tryz.prog J I) (mI : MonoI I) : SoundF Tryz.prog J 295 (F.strings_indexFunc ⟨I, kk⟩) := by
 refine SoundF.of_walk (I := I) hI mI mixed W7.A.strings_indexFunc Tryz.func295 rfl (by kernel_rfl) (by kernel_rfl) Tryz.call295 fun args h K hs => ?_
 match args, hs with
 | [a0, a1, a2], hs => exact ⟨Nat.le_of_ble_eq_true (by kernel_rfl), Eq.mp (by kernel_rfl) hs⟩
theorem S.strings_IndexFunc (hI : SoundI Tryz.prog J I) (mI : MonoI I) : SoundF Tryz.prog J 268 (F.strings_IndexFunc ⟨I, kk⟩) := by
 refine SoundF.of_walk (I := lkI [(295, F.strings_indexFunc ⟨I, kk⟩)]) (lkI_sound ⟨S.strings_indexFunc hI mI, trivial⟩) (lkI_mono _) mixed W7.A.strings_IndexFunc Tryz.func268 rfl (by kernel_rfl) (by kernel_rfl) Tryz.call268 fun args h K hs => ?_
 match args, hs with
 | [a0, a1], hs => exact ⟨Nat.le_of_ble_eq_true (by kernel_rfl), Eq.mp (by kernel_rfl) hs⟩
theorem S.strings_ContainsFunc (hI : SoundI Tryz.prog J I) (mI : MonoI I) : SoundF Tryz.prog J 203 (F.strings_ContainsFunc ⟨I, kk⟩) := by
 refine SoundF.of_walk (I := lkI [(268, F.strings_IndexFunc ⟨I, kk⟩)]) (lkI_sound ⟨S.strings_IndexFunc hI mI, trivial⟩) (lkI_mono _) mixed W7.A.strings_ContainsFunc Tryz.func203 rfl (by kernel_rfl) (by kernel_rfl) Tryz.call203 fun args h K hs => ?_
 match args, hs with
 | [a0, a1], hs => exact ⟨Nat.le_of_ble_eq_true (by kernel_rfl), Eq.mp (by kernel_rfl) hs⟩
theorem S.op_makes (hI : SoundI Tryz.prog J I) (mI : MonoI I) : SoundF Tryz.prog J 204 (F.op_makes ⟨I, kk⟩) := by
 refine SoundF.of_walk (I := lkI []) (lkI_sound trivial) (lkI_mono _) mixed W7.A.op_makes Tryz.func204 rfl (by kernel_rfl) (by kernel_rfl) Tryz.call204 fun args h K hs => ?_
 match args, hs with
 | [a0], hs => exact ⟨Nat.le_of_ble_eq_true (by kernel_rfl), Eq.mp (by kernel_rfl) hs⟩
theorem S.op_May_1 (hI : SoundI Tryz.prog J I) (mI : MonoI I) : SoundF Tryz.prog J 202 (F.op_May_1 ⟨I, kk⟩) := by
 refine SoundF.of_walk (I := lkI []) (lkI_sound trivial) (lkI_mono _) mixed W7.A.op_May_1 Tryz.func202 rfl (by kernel_rfl) (by kernel_rfl) Tryz.call202 fun args h K hs => ?_
 match args, hs with
 | [a0], hs => exact ⟨Nat.le_of_ble_eq_true (by kernel_rfl), Eq.mp (by kernel_rfl) hs⟩
theorem S.op_May (hI : SoundI Tryz.prog J I) (mI : MonoI I) : SoundF Tryz.prog J 127 (F.op_May ⟨I, kk⟩) := by
 refine SoundF.of_walk (I := lkI [(201, F.op_names ⟨I, kk⟩), (203, F.strings_ContainsFunc ⟨I, kk⟩), (204, F.op_makes ⟨I, kk⟩)]) (lkI_sound ⟨S.op_names hI mI, S.strings_ContainsFunc hI mI, S.op_makes hI mI, trivial⟩) (lkI_mono _) mixed W7.A.op_May Tryz.func127 rfl (by kernel_rfl) (by kernel_rfl) Tryz.call127 fun args h K hs => ?_
 match args, hs with
 | [a0], hs => exact ⟨Nat.le_of_ble_eq_true (by kernel_rfl), Eq.mp (by kernel_rfl) hs⟩
theorem S.op_All_1 (hI : SoundI Tryz.prog J I) (mI : MonoI I) : SoundF Tryz.prog J 126 (F.op_All_1 ⟨I, kk⟩) := by
 refine SoundF.of_walk (I := lkI [(127, F.op_May ⟨I, kk⟩)]) (lkI_sound ⟨S.op_May hI mI, trivial⟩) (lkI_mono _) mixed W7.A.op_All_1 Tryz.func126 rfl (by kernel_rfl) (by kernel_rfl) Tryz.call126 fun args h K hs => ?_
 match args, hs with
 | [a0], hs => exact ⟨Nat.le_of_ble_eq_true (by kernel_rfl), Eq.mp (by kernel_rfl) hs⟩
theorem S.op_All (hI : SoundI Tryz.prog J I) (mI : MonoI I) : SoundF Tryz.prog J 64 (F.op_All ⟨I, kk⟩) := by
 refine SoundF.of_walk (I := lkI [(125, F.slices_ContainsFunc_Sapi_Op_api_Op ⟨I, kk⟩)]) (lkI_sound ⟨S.slices_ContainsFunc_Sapi_Op_api_Op hI mI, trivial⟩) (lkI_mono _) mixed W7.A.op_All Tryz.func64 rfl (by kernel_rfl) (by kernel_rfl) Tryz.call64 fun args h K hs => ?_
 match args, hs with
 | [a0], hs => exact ⟨Nat.le_of_ble_eq_true (by kernel_rfl), Eq.mp (by kernel_rfl) hs⟩
theorem S.slices_Clone_Sapi_Op_api_Op (hI : SoundI Tryz.prog J I) (mI : MonoI I) : SoundF Tryz.prog J 65 (F.slices_Clone_Sapi_Op_api_Op ⟨I, kk⟩) := by
 refine SoundF.of_walk (I := lkI []) (lkI_sound trivial) (lkI_mono _) mixed W7.A.slices_Clone_Sapi_Op_api_Op Tryz.func65 rfl (by kernel_rfl) (by kernel_rfl) Tryz.call65 fun args h K hs => ?_
 match args, hs with
 | [a0], hs => exact ⟨Nat.le_of_ble_eq_true (by kernel_rfl), Eq.mp (by kernel_rfl) hs⟩
theorem S.mark_Add (hI : SoundI Tryz.prog J I) (mI : MonoI I) : SoundF Tryz.prog J 296 (F.mark_Add ⟨I, kk⟩) := by
 refine SoundF.of_walk (I := lkI []) (lkI_sound trivial) (lkI_mono _) mixed W7.A.mark_Add Tryz.func296 rfl (by kernel_rfl) (by kernel_rfl) Tryz.call296 fun args h K hs => ?_
 match args, hs with
 | [a0, a1], hs => exact ⟨Nat.le_of_ble_eq_true (by kernel_rfl), Eq.mp (by kernel_rfl) hs⟩
theorem S.mark_Of (hI : SoundI Tryz.prog J I) (mI : MonoI I) : SoundF Tryz.prog J 269 (F.mark_Of ⟨I, kk⟩) := by
 refine SoundF.of_walk (I := lkI [(296, F.mark_Add ⟨I, kk⟩)]) (lkI_sound ⟨S.mark_Add hI mI, trivial⟩) (lkI_mono _) mixed W7.A.mark_Of Tryz.func269 rfl (by kernel_rfl) (by kernel_rfl) Tryz.call269 fun args h K hs => ?_
 match args, hs with
 | [a0], hs => exact ⟨Nat.le_of_ble_eq_true (by kernel_rfl), Eq.mp (by kernel_rfl) hs⟩
theorem S.mark_Shards (hI : SoundI Tryz.prog J I) (mI : MonoI I) : SoundF Tryz.prog J 205 (F.mark_Shards ⟨I, kk⟩) := by
 refine SoundF.of_walk (I := lkI [(269, F.mark_Of ⟨I, kk⟩)]) (lkI_sound ⟨S.mark_Of hI mI, trivial⟩) (lkI_mono _) mixed W7.A.mark_Shards Tryz.func205 rfl (by kernel_rfl) (by kernel_rfl) Tryz.call205 fun args h K hs => ?_
 match args, hs with
 | [a0, a1], hs => exact ⟨Nat.le_of_ble_eq_true (by kernel_rfl), Eq.mp (by kernel_rfl) hs⟩
theorem S.name_Shard (hI : SoundI Tryz.prog J I) (mI : MonoI I) : SoundF Tryz.prog J 128 (F.name_Shard ⟨I, kk⟩) := by
 refine SoundF.of_walk (I := lkI [(205, F.mark_Shards ⟨I, kk⟩)]) (lkI_sound ⟨S.mark_Shards hI mI, trivial⟩) (lkI_mono _) mixed W7.A.name_Shard Tryz.func128 rfl (by kernel_rfl) (by kernel_rfl) Tryz.call128 fun args h K hs => ?_
 match args, hs with
 | [a0, a1], hs => exact ⟨Nat.le_of_ble_eq_true (by kernel_rfl), Eq.mp (by kernel_rfl) hs⟩
theorem S.op_Parts (hI : SoundI Tryz.prog J I) (mI : MonoI I) : SoundF Tryz.prog J 66 (F.op_Parts ⟨I, kk⟩) := by
 refine SoundF.of_walk (I := lkI [(128, F.name_Shard ⟨I, kk⟩)]) (lkI_sound ⟨S.name_Shard hI mI, trivial⟩) (lkI_mono _) mixed W7.A.op_Parts Tryz.func66 rfl (by kernel_rfl) (by kernel_rfl) Tryz.call66 fun args h K hs => ?_
 match args, hs with
 | [a0, a1], hs => exact ⟨Nat.le_of_ble_eq_true (by kernel_rfl), Eq.mp (by kernel_rfl) hs⟩
theorem S.desk_Desk_Begin (hI : SoundI Tryz.prog J I) (mI : MonoI I) : SoundF Tryz.prog J 16 (F.desk_Desk_Begin ⟨I, kk⟩) := by
 refine SoundF.of_walk (I := lkI [(63, F.op_Client ⟨I, kk⟩), (64, F.op_All ⟨I, kk⟩), (65, F.slices_Clone_Sapi_Op_api_Op ⟨I, kk⟩), (66, F.op_Parts ⟨I, kk⟩)]) (lkI_sound ⟨S.op_Client hI mI, S.op_All hI mI, S.slices_Clone_Sapi_Op_api_Op hI mI, S.op_Parts hI mI, trivial⟩) (lkI_mono _) mixed W7.A.desk_Desk_Begin Tryz.func16 rfl (by kernel_rfl) (by kernel_rfl) Tryz.call16 fun args h K hs => ?_
 match args, hs with
 | [a0, a1, a2], hs => exact ⟨Nat.le_of_ble_eq_true (by kernel_rfl), Eq.mp (by kernel_rfl) hs⟩
theorem S.desk_trans_has (hI : SoundI Tryz.prog J I) (mI : MonoI I) : SoundF Tryz.prog J 67 (F.desk_trans_has ⟨I, kk⟩) := by
 refine SoundF.of_walk (I := lkI []) (lkI_sound trivial) (lkI_mono _) mixed W7.A.desk_trans_has Tryz.func67 rfl (by kernel_rfl) (by kernel_rfl) Tryz.call67 fun args h K hs => ?_
 match args, hs with
 | [a0, a1], hs => exact ⟨Nat.le_of_ble_eq_true (by kernel_rfl), Eq.mp (by kernel_rfl) hs⟩
theorem S.desk_trans_shards (hI : SoundI Tryz.prog J I) (mI : MonoI I) : SoundF Tryz.prog J 69 (F.desk_trans_shards ⟨I, kk⟩) := by
 refine SoundF.of_walk (I := lkI [(67, F.desk_trans_has ⟨I, kk⟩)]) (lkI_sound ⟨S.desk_trans_has hI mI, trivial⟩) (lkI_mono _) mixed W7.A.desk_trans_shards Tryz.func69 rfl (by kernel_rfl) (by kernel_rfl) Tryz.call69 fun args h K hs => ?_
 match args, hs with
 | [a0], hs => exact ⟨Nat.le_of_ble_eq_true (by kernel_rfl), Eq.mp (by kernel_rfl) hs⟩
theorem S.slices_Clone_Sstring_string (hI : SoundI Tryz.prog J I) (mI : MonoI I) : SoundF Tryz.prog J 68 (F.slices_Clone_Sstring_string ⟨I, kk⟩) := by
 refine SoundF.of_walk (I := lkI []) (lkI_sound trivial) (lkI_mono _) mixed W7.A.slices_Clone_Sstring_string Tryz.func68 rfl (by kernel_rfl) (by kernel_rfl) Tryz.call68 fun args h K hs => ?_
 match args, hs with
 | [a0], hs => exact ⟨Nat.le_of_ble_eq_true (by kernel_rfl), Eq.mp (by kernel_rfl) hs⟩
def A.desk_Desk_keep : An := (.s (.s (.seq (.s (.join 75557863725914323158912 [] (.cond (.seq (.join 34359476224 [] (.draw #[0, 0, 2, 6, 14, 30, 62, 0, 128, 384, 896, 1920, 3968, 0, 8192, 24702, 57470, 131071, 262143, 524287] (.qs [0, 1, 2, 3, 4, 5, 7, 8, 9, 10, 11, 13] (.fork (.fork (.c 6 [10] (.fork (.c 12 [4] (.c 14 [4, 10] (.q 15 (.c 16 [10] (.q 17 (.q 18 (.c 19 [] .done))))))) (.c 14 [4, 10] (.q 15 (.fork (.c 12 [4] (.c 16 [10] (.q 17 (.q 18 (.c 19 [] .done))))) (.c 16 [10] (.c 12 [4] (.q 17 (.q 18 (.c 19 [] .done)))))))))) (.c 12 [4] (.fork (.c 6 [10] (.c 14 [4, 10] (.q 15 (.c 16 [10] (.q 17 (.q 18 (.c 19 [] .done))))))) (.c 14 [4, 10] (.c 6 [10] (.q 15 (.c 16 [10] (.q 17 (.q 18 (.c 19 [] .done)))))))))) (.c 14 [4, 10] (.fork (.c 6 [10] (.q 15 (.fork (.c 12 [4] (.c 16 [10] (.q 17 (.q 18 (.c 19 [] .done))))) (.c 16 [10] (.c 12 [4] (.q 17 (.q 18 (.c 19 [] .done)))))))) (.c 12 [4] (.c 6 [10] (.q 15 (.c 16 [10] (.q 17 (.q 18 (.c 19 [] .done))))))))))))) (.s (.block (.loop 75557863724814811793280 [] (.s (.seq (.cond .l .l) (.block (.s (.s (.block (.loop 75557854718715068679680 [53] (.s (.seq (.cond .l .l) (.seq (.block (.s (.draw #[0, 1, 0, 0, 8, 24, 56, 0, 0, 256, 0, 1792, 3840, 0, 8192, 8063, 40831, 131071, 262143] (.qs [0, 1, 2, 3, 4, 5, 6, 7, 8, 9, 10, 11, 12, 13, 14, 15] (.c 16 [14] (.q 17 (.c 18 [] .done))))))) .l)))))))))))))) .l))) (.seq (.draw #[0, 1, 3, 7, 0, 16, 63, 0, 128, 511, 1023] (.qs [0, 1, 2, 3, 4, 5, 6, 7] (.c 8 [3, 5, 6] (.c 9 [] (.q 10 .done))))) (.draw #[0, 1, 3, 7, 0, 16, 0, 0, 128, 384, 896, 1984, 4095] (.qs [0, 1, 2, 3, 4, 5, 6, 7, 8, 9, 10, 11] (.c 12 [] .done)))))))
theorem S.desk_Desk_keep (hI : SoundI Tryz.prog J I) (mI : MonoI I) : SoundF Tryz.prog J 70 (F.desk_Desk_keep ⟨I, kk⟩) := by
 refine SoundF.of_walk (I := lkI []) (lkI_sound trivial) (lkI_mono _) mixed A.desk_Desk_keep Tryz.func70 rfl (by kernel_rfl) (by kernel_rfl) Tryz.call70 fun args h K hs => ?_
 match args, hs with
 | [a0, a1, a2], hs => exact ⟨Nat.le_of_ble_eq_true (by kernel_rfl), Eq.mp (by kernel_rfl) hs⟩
theorem S.desk_Desk_Vote (hI : SoundI Tryz.prog J I) (mI : MonoI I) : SoundF Tryz.prog J 17 (F.desk_Desk_Vote ⟨I, kk⟩) := by
 refine SoundF.of_walk (I := lkI [(67, F.desk_trans_has ⟨I, kk⟩), (68, F.slices_Clone_Sstring_string ⟨I, kk⟩), (69, F.desk_trans_shards ⟨I, kk⟩), (70, F.desk_Desk_keep ⟨I, kk⟩)]) (lkI_sound ⟨S.desk_trans_has hI mI, S.slices_Clone_Sstring_string hI mI, S.desk_trans_shards hI mI, S.desk_Desk_keep hI mI, trivial⟩) (lkI_mono _) mixed W7.A.desk_Desk_Vote Tryz.func17 rfl (by kernel_rfl) (by kernel_rfl) Tryz.call17 fun args h K hs => ?_
 match args, hs with
 | [a0, a1], hs => exact ⟨Nat.le_of_ble_eq_true (by kernel_rfl), Eq.mp (by kernel_rfl) hs⟩
theorem S.desk_Desk_Answer (hI : SoundI Tryz.prog J I) (mI : MonoI I) : SoundF Tryz.prog J 19 (F.desk_Desk_Answer ⟨I, kk⟩) := by
 refine SoundF.of_walk (I := lkI [(68, F.slices_Clone_Sstring_string ⟨I, kk⟩), (63, F.op_Client ⟨I, kk⟩)]) (lkI_sound ⟨S.slices_Clone_Sstring_string hI mI, S.op_Client hI mI, trivial⟩) (lkI_mono _) mixed W7.A.desk_Desk_Answer Tryz.func19 rfl (by kernel_rfl) (by kernel_rfl) Tryz.call19 fun args h K hs => ?_
 match args, hs with
 | [a0, a1], hs => exact ⟨Nat.le_of_ble_eq_true (by kernel_rfl), Eq.mp (by kernel_rfl) hs⟩
theorem S.estafetteref12_small (hI : SoundI Tryz.prog J I) (mI : MonoI I) : SoundF Tryz.prog J 137 (F.estafetteref12_small ⟨I, kk⟩) := by
 refine SoundF.of_walk (I := lkI []) (lkI_sound trivial) (lkI_mono _) mixed W7.A.estafetteref12_small Tryz.func137 rfl (by kernel_rfl) (by kernel_rfl) Tryz.call137 fun args h K hs => ?_
 match args, hs with
 | [a0], hs => exact ⟨Nat.le_of_ble_eq_true (by kernel_rfl), Eq.mp (by kernel_rfl) hs⟩
theorem S.estafetteref12_May (hI : SoundI Tryz.prog J I) (mI : MonoI I) : SoundF Tryz.prog J 76 (F.estafetteref12_May ⟨I, kk⟩) := by
 refine SoundF.of_walk (I := lkI [(137, F.estafetteref12_small ⟨I, kk⟩)]) (lkI_sound ⟨S.estafetteref12_small hI mI, trivial⟩) (lkI_mono _) mixed W7.A.estafetteref12_May Tryz.func76 rfl (by kernel_rfl) (by kernel_rfl) Tryz.call76 fun args h K hs => ?_
 match args, hs with
 | [a0], hs => exact ⟨Nat.le_of_ble_eq_true (by kernel_rfl), Eq.mp (by kernel_rfl) hs⟩
theorem S.estafetteref12_All (hI : SoundI Tryz.prog J I) (mI : MonoI I) : SoundF Tryz.prog J 23 (F.estafetteref12_All ⟨I, kk⟩) := by
 refine SoundF.of_walk (I := lkI [(76, F.estafetteref12_May ⟨I, kk⟩)]) (lkI_sound ⟨S.estafetteref12_May hI mI, trivial⟩) (lkI_mono _) mixed W7.A.estafetteref12_All Tryz.func23 rfl (by kernel_rfl) (by kernel_rfl) Tryz.call23 fun args h K hs => ?_
 match args, hs with
 | [a0], hs => exact ⟨Nat.le_of_ble_eq_true (by kernel_rfl), Eq.mp (by kernel_rfl) hs⟩
theorem S.estafettelaw15_begun (_ : SoundI Tryz.prog J I) (_ : MonoI I) : SoundF Tryz.prog J 14 (F.estafettelaw15_begun ⟨I, kk⟩) := begun15v
def A.estafettelaw12_Ops : An := (.s (.s .l))
theorem S.estafettelaw12_Ops (hI : SoundI Tryz.prog J I) (mI : MonoI I) : SoundF Tryz.prog J 22 (F.estafettelaw12_Ops ⟨I, kk⟩) := by
 refine SoundF.of_walk (I := lkI []) (lkI_sound trivial) (lkI_mono _) mixed A.estafettelaw12_Ops Tryz.func22 rfl (by kernel_rfl) (by kernel_rfl) Tryz.call22 fun args h K hs => ?_
 match args, hs with
 | [a0], hs => exact ⟨Nat.le_of_ble_eq_true (by kernel_rfl), Eq.mp (by kernel_rfl) hs⟩
def A.estafetteref1_Add : An := (.s (.s (.seq (.s (.block (.loop 4294951136 [5, 6, 7] (.seq (.s (.cond .l .l)) (.seq (.block (.s .l)) .l))))) (.s .l))))
theorem S.estafetteref1_Add (hI : SoundI Tryz.prog J I) (mI : MonoI I) : SoundF Tryz.prog J 212 (F.estafetteref1_Add ⟨I, kk⟩) := by
 refine SoundF.of_walk (I := lkI []) (lkI_sound trivial) (lkI_mono _) mixed A.estafetteref1_Add Tryz.func212 rfl (by kernel_rfl) (by kernel_rfl) Tryz.call212 fun args h K hs => ?_
 match args, hs with
 | [a0, a1], hs => exact ⟨Nat.le_of_ble_eq_true (by kernel_rfl), Eq.mp (by kernel_rfl) hs⟩
def A.estafetteref1_Mark : An := (.s (.s .l))
theorem S.estafetteref1_Mark (hI : SoundI Tryz.prog J I) (mI : MonoI I) : SoundF Tryz.prog J 138 (F.estafetteref1_Mark ⟨I, kk⟩) := by
 refine SoundF.of_walk (I := lkI [(212, F.estafetteref1_Add ⟨I, kk⟩)]) (lkI_sound ⟨S.estafetteref1_Add hI mI, trivial⟩) (lkI_mono _) mixed A.estafetteref1_Mark Tryz.func138 rfl (by kernel_rfl) (by kernel_rfl) Tryz.call138 fun args h K hs => ?_
 match args, hs with
 | [a0], hs => exact ⟨Nat.le_of_ble_eq_true (by kernel_rfl), Eq.mp (by kernel_rfl) hs⟩
def A.estafetteref1_Shard : An := (.s (.seq (.s (.cond (.s .l) .l)) (.s .l)))
theorem S.estafetteref1_Shard (hI : SoundI Tryz.prog J I) (mI : MonoI I) : SoundF Tryz.prog J 77 (F.estafetteref1_Shard ⟨I, kk⟩) := by
 refine SoundF.of_walk (I := lkI [(138, F.estafetteref1_Mark ⟨I, kk⟩)]) (lkI_sound ⟨S.estafetteref1_Mark hI mI, trivial⟩) (lkI_mono _) mixed A.estafetteref1_Shard Tryz.func77 rfl (by kernel_rfl) (by kernel_rfl) Tryz.call77 fun args h K hs => ?_
 match args, hs with
 | [a0, a1], hs => exact ⟨Nat.le_of_ble_eq_true (by kernel_rfl), Eq.mp (by kernel_rfl) hs⟩
def A.estafetteref12_Parts : An := (.s (.seq (.s (.cond (.s .l) .l)) (.s (.seq (.s (.block (.loop 549755748544 [6] (.seq (.s (.cond .l .l)) (.seq (.block (.s .l)) .l))))) (.s .l)))))
theorem S.estafetteref12_Parts (hI : SoundI Tryz.prog J I) (mI : MonoI I) : SoundF Tryz.prog J 24 (F.estafetteref12_Parts ⟨I, kk⟩) := by
 refine SoundF.of_walk (I := lkI [(77, F.estafetteref1_Shard ⟨I, kk⟩)]) (lkI_sound ⟨S.estafetteref1_Shard hI mI, trivial⟩) (lkI_mono _) mixed A.estafetteref12_Parts Tryz.func24 rfl (by kernel_rfl) (by kernel_rfl) Tryz.call24 fun args h K hs => ?_
 match args, hs with
 | [a0, a1], hs => exact ⟨Nat.le_of_ble_eq_true (by kernel_rfl), Eq.mp (by kernel_rfl) hs⟩
end Go.Abs
namespace Go.Abs
open Go Go.Proofs
def Z0 : FE := ⟨fun _ => none, kk⟩
def Z1 : FE := ⟨lkI [(202, F.op_May_1 Z0)], kk⟩
def ID : FuncId → Option Spec := lkI [(126, F.op_All_1 Z1), (202, F.op_May_1 Z0)]
def ED : FE := ⟨ID, kk⟩
theorem none_s : SoundI Tryz.prog J (fun _ => none) := fun _ _ h => by cases h
theorem none_m : MonoI (fun _ => none) := fun _ _ h => by cases h
theorem Z1_s : SoundI Tryz.prog J Z1.I := lkI_sound ⟨S.op_May_1 none_s none_m, trivial⟩
theorem Z1_m : MonoI Z1.I := lkI_mono _
theorem ID_sound : SoundI Tryz.prog J ID := lkI_sound ⟨S.op_All_1 Z1_s Z1_m, S.op_May_1 none_s none_m, trivial⟩
theorem ID_mono : MonoI ID := lkI_mono _
theorem opeD : OpE ED := ⟨ID_mono, ⟨Z1, rfl, Z1_m, Z0, rfl⟩, ⟨Z0, rfl⟩⟩
end Go.Abs

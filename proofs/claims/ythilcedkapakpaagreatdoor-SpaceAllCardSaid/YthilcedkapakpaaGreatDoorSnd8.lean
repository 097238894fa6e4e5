/- The shallow forms speak truly, printed by tools/gen.lean. -/
import Derived.Test.YthilcedkapakpaaGreatDoorLib1
import Derived.Test.YthilcedkapakpaaGreatDoorClo8
import Derived.Test.YthilcedkapakpaaGreatDoorFns8
import Derived.Test.YthilcedkapakpaaGreatDoorProg
set_option linter.unusedSimpArgs false
set_option maxRecDepth 20000
set_option linter.unusedVariables false
namespace Go.Abs
open Go Go.Proofs
abbrev J : World → Prop := J8
variable {I : FuncId → Option Spec}
theorem mixed : Tryz.prog.follows .mixedOrders = true := by kernel_rfl

def A.table_New : An := (.seq .leaf (.seq .leaf .leaf))
theorem S.table_New (hI : SoundI Tryz.prog J I) (mI : MonoI I) : SoundF Tryz.prog J 18 (F.table_New ⟨I, kk⟩) := by
  refine SoundF.of_walk (I := lkI []) (lkI_sound trivial) (lkI_mono _) mixed A.table_New Tryz.func18 rfl (by kernel_rfl) (by kernel_rfl) Tryz.call18 fun args h K hs => ?_
  match args, hs with
  | [], hs => exact ⟨Nat.le_of_ble_eq_true (by kernel_rfl), Eq.mp (by kernel_rfl) hs⟩

def A.estafetteref8_New : An := (.seq .leaf (.seq .leaf .leaf))
theorem S.estafetteref8_New (hI : SoundI Tryz.prog J I) (mI : MonoI I) : SoundF Tryz.prog J 19 (F.estafetteref8_New ⟨I, kk⟩) := by
  refine SoundF.of_walk (I := lkI []) (lkI_sound trivial) (lkI_mono _) mixed A.estafetteref8_New Tryz.func19 rfl (by kernel_rfl) (by kernel_rfl) Tryz.call19 fun args h K hs => ?_
  match args, hs with
  | [a0, a1], hs => exact ⟨Nat.le_of_ble_eq_true (by kernel_rfl), Eq.mp (by kernel_rfl) hs⟩

def A.maps_Clone_map_string_string_string_string : An := (.seq .leaf (.seq (.seq .leaf (.cond (.seq .leaf .leaf) .leaf)) (.seq .leaf .leaf)))
theorem S.maps_Clone_map_string_string_string_string (hI : SoundI Tryz.prog J I) (mI : MonoI I) : SoundF Tryz.prog J 63 (F.maps_Clone_map_string_string_string_string ⟨I, kk⟩) := by
  refine SoundF.of_walk (I := lkI [(94, F.maps_clone ⟨I, kk⟩)]) (lkI_sound ⟨S.maps_clone hI mI, trivial⟩) (lkI_mono _) mixed A.maps_Clone_map_string_string_string_string Tryz.func63 rfl (by kernel_rfl) (by kernel_rfl) Tryz.call63 fun args h K hs => ?_
  match args, hs with
  | [a0], hs => exact ⟨Nat.le_of_ble_eq_true (by kernel_rfl), Eq.mp (by kernel_rfl) hs⟩

def A.table_Table_Clone : An := (.seq .leaf (.seq (.seq .leaf (.cond (.seq .leaf .leaf) .leaf)) (.seq .leaf .leaf)))
theorem S.table_Table_Clone (hI : SoundI Tryz.prog J I) (mI : MonoI I) : SoundF Tryz.prog J 20 (F.table_Table_Clone ⟨I, kk⟩) := by
  refine SoundF.of_walk (I := lkI [(63, F.maps_Clone_map_string_string_string_string ⟨I, kk⟩)]) (lkI_sound ⟨S.maps_Clone_map_string_string_string_string hI mI, trivial⟩) (lkI_mono _) mixed A.table_Table_Clone Tryz.func20 rfl (by kernel_rfl) (by kernel_rfl) Tryz.call20 fun args h K hs => ?_
  match args, hs with
  | [a0], hs => exact ⟨Nat.le_of_ble_eq_true (by kernel_rfl), Eq.mp (by kernel_rfl) hs⟩

def A.estafetteref8_Space_Clone : An := (.seq .leaf (.seq .leaf (.seq (.draw #[0, 1, 3, 7, 15, 0, 32, 96, 224, 511, 0, 1024, 3072, 7168, 16383, 32767, 65535, 131071, 262143, 524287, 1048575] (.q 0 (.q 1 (.q 2 (.q 3 (.q 5 (.q 6 (.q 7 (.q 8 (.q 10 (.q 11 (.q 12 (.q 13 (.c 4 [8, 13] (.c 9 [13] (.c 14 [] (.q 15 (.c 16 [] (.q 17 (.c 18 [] (.q 19 (.c 20 [] .done)))))))))))))))))))))) (.seq .leaf .leaf))))
theorem S.estafetteref8_Space_Clone (hI : SoundI Tryz.prog J I) (mI : MonoI I) : SoundF Tryz.prog J 21 (F.estafetteref8_Space_Clone ⟨I, kk⟩) := by
  refine SoundF.of_walk (I := lkI []) (lkI_sound trivial) (lkI_mono _) mixed A.estafetteref8_Space_Clone Tryz.func21 rfl (by kernel_rfl) (by kernel_rfl) Tryz.call21 fun args h K hs => ?_
  match args, hs with
  | [a0], hs => exact ⟨Nat.le_of_ble_eq_true (by kernel_rfl), Eq.mp (by kernel_rfl) hs⟩

def A.table_Table_Put : An := (.seq .leaf (.seq (.seq .leaf (.cond (.seq .leaf .leaf) .leaf)) (.seq .leaf (.seq .leaf (.seq .leaf .leaf)))))
theorem S.table_Table_Put (hI : SoundI Tryz.prog J I) (mI : MonoI I) : SoundF Tryz.prog J 22 (F.table_Table_Put ⟨I, kk⟩) := by
  refine SoundF.of_walk (I := lkI []) (lkI_sound trivial) (lkI_mono _) mixed A.table_Table_Put Tryz.func22 rfl (by kernel_rfl) (by kernel_rfl) Tryz.call22 fun args h K hs => ?_
  match args, hs with
  | [a0, a1, a2], hs => exact ⟨Nat.le_of_ble_eq_true (by kernel_rfl), Eq.mp (by kernel_rfl) hs⟩

def A.estafetteref8_Space_at : An := (.seq .leaf (.seq .leaf (.seq (.block (.loop 268435392 [6] (.seq (.seq .leaf (.cond .leaf .leaf)) (.block .leaf)))) (.seq (.draw #[0, 0, 0, 4, 12, 28, 60, 126, 254, 510, 1022, 2046, 4094, 510, 16382, 32766, 65534, 510, 262142, 524286, 511, 2097151] (.q 0 (.q 1 (.q 2 (.q 3 (.q 4 (.q 5 (.q 6 (.q 7 (.q 8 (.q 9 (.q 10 (.q 11 (.q 12 (.q 13 (.q 14 (.q 15 (.q 16 (.q 17 (.q 18 (.q 19 (.q 20 (.q 21 .done))))))))))))))))))))))) .leaf))))
theorem S.estafetteref8_Space_at (hI : SoundI Tryz.prog J I) (mI : MonoI I) : SoundF Tryz.prog J 64 (F.estafetteref8_Space_at ⟨I, kk⟩) := by
  refine SoundF.of_walk (I := lkI []) (lkI_sound trivial) (lkI_mono _) mixed A.estafetteref8_Space_at Tryz.func64 rfl (by kernel_rfl) (by kernel_rfl) Tryz.call64 fun args h K hs => ?_
  match args, hs with
  | [a0, a1], hs => exact ⟨Nat.le_of_ble_eq_true (by kernel_rfl), Eq.mp (by kernel_rfl) hs⟩

def A.estafetteref8_Space_put : An := (.seq .leaf (.seq .leaf (.seq (.seq .leaf (.cond (.seq (.draw #[0, 1, 3, 7, 0, 0, 63, 127] (.q 0 (.q 1 (.q 2 (.q 3 (.q 4 (.q 5 (.q 6 (.c 7 [] .done))))))))) .leaf) .leaf)) (.draw #[0, 0, 2, 6, 14, 0, 62, 126, 0, 256, 1022, 0, 2048, 6144, 14336, 0, 63488, 131070, 262143, 524287, 1048575] (.q 0 (.q 1 (.q 2 (.q 3 (.q 4 (.q 5 (.q 6 (.q 8 (.q 11 (.q 12 (.q 13 (.q 14 (.q 15 (.q 16 (.fork (.c 7 [8, 14, 16] (.c 9 [4, 6, 14, 16] (.c 10 [14, 16] (.c 17 [] (.q 18 (.q 19 (.c 20 [] .done))))))) (.c 9 [4, 6, 14, 16] (.c 7 [8, 14, 16] (.c 10 [14, 16] (.c 17 [] (.q 18 (.q 19 (.c 20 [] .done))))))))))))))))))))))))))
theorem S.estafetteref8_Space_put (hI : SoundI Tryz.prog J I) (mI : MonoI I) : SoundF Tryz.prog J 65 (F.estafetteref8_Space_put ⟨I, kk⟩) := by
  refine SoundF.of_walk (I := lkI [(64, F.estafetteref8_Space_at ⟨I, kk⟩)]) (lkI_sound ⟨S.estafetteref8_Space_at hI mI, trivial⟩) (lkI_mono _) mixed A.estafetteref8_Space_put Tryz.func65 rfl (by kernel_rfl) (by kernel_rfl) Tryz.call65 fun args h K hs => ?_
  match args, hs with
  | [a0, a1], hs => exact ⟨Nat.le_of_ble_eq_true (by kernel_rfl), Eq.mp (by kernel_rfl) hs⟩

def A.estafetteref8_Space_Put : An := (.seq .leaf (.seq .leaf (.seq .leaf (.seq .leaf .leaf))))
theorem S.estafetteref8_Space_Put (hI : SoundI Tryz.prog J I) (mI : MonoI I) : SoundF Tryz.prog J 23 (F.estafetteref8_Space_Put ⟨I, kk⟩) := by
  refine SoundF.of_walk (I := lkI [(64, F.estafetteref8_Space_at ⟨I, kk⟩), (65, F.estafetteref8_Space_put ⟨I, kk⟩)]) (lkI_sound ⟨S.estafetteref8_Space_at hI mI, S.estafetteref8_Space_put hI mI, trivial⟩) (lkI_mono _) mixed A.estafetteref8_Space_Put Tryz.func23 rfl (by kernel_rfl) (by kernel_rfl) Tryz.call23 fun args h K hs => ?_
  match args, hs with
  | [a0, a1, a2], hs => exact ⟨Nat.le_of_ble_eq_true (by kernel_rfl), Eq.mp (by kernel_rfl) hs⟩

def A.table_Table_Get : An := (.seq .leaf (.seq (.seq .leaf (.cond (.seq .leaf .leaf) .leaf)) (.seq .leaf (.seq .leaf .leaf))))
theorem S.table_Table_Get (hI : SoundI Tryz.prog J I) (mI : MonoI I) : SoundF Tryz.prog J 26 (F.table_Table_Get ⟨I, kk⟩) := by
  refine SoundF.of_walk (I := lkI []) (lkI_sound trivial) (lkI_mono _) mixed A.table_Table_Get Tryz.func26 rfl (by kernel_rfl) (by kernel_rfl) Tryz.call26 fun args h K hs => ?_
  match args, hs with
  | [a0, a1], hs => exact ⟨Nat.le_of_ble_eq_true (by kernel_rfl), Eq.mp (by kernel_rfl) hs⟩

def A.table_Table_Del : An := (.seq .leaf (.seq (.seq .leaf (.seq .leaf (.cond (.seq .leaf .leaf) .leaf))) (.seq .leaf (.seq .leaf .leaf))))
theorem S.table_Table_Del (hI : SoundI Tryz.prog J I) (mI : MonoI I) : SoundF Tryz.prog J 24 (F.table_Table_Del ⟨I, kk⟩) := by
  refine SoundF.of_walk (I := lkI [(26, F.table_Table_Get ⟨I, kk⟩)]) (lkI_sound ⟨S.table_Table_Get hI mI, trivial⟩) (lkI_mono _) mixed A.table_Table_Del Tryz.func24 rfl (by kernel_rfl) (by kernel_rfl) Tryz.call24 fun args h K hs => ?_
  match args, hs with
  | [a0, a1], hs => exact ⟨Nat.le_of_ble_eq_true (by kernel_rfl), Eq.mp (by kernel_rfl) hs⟩

def A.estafetteref8_Space_Del : An := (.seq .leaf (.seq .leaf (.seq (.seq .leaf (.cond (.draw #[0, 0, 2, 6, 14, 0, 62, 126, 0, 256, 768, 1792, 0, 4096, 16128, 32766, 65535, 131071, 262143] (.q 0 (.q 1 (.q 2 (.q 3 (.q 4 (.q 5 (.q 6 (.q 8 (.q 9 (.q 10 (.q 11 (.q 12 (.q 13 (.q 14 (.c 7 [11, 14] (.c 15 [] (.q 16 (.q 17 (.c 18 [] .done)))))))))))))))))))) .leaf)) (.seq .leaf .leaf))))
theorem S.estafetteref8_Space_Del (hI : SoundI Tryz.prog J I) (mI : MonoI I) : SoundF Tryz.prog J 25 (F.estafetteref8_Space_Del ⟨I, kk⟩) := by
  refine SoundF.of_walk (I := lkI [(64, F.estafetteref8_Space_at ⟨I, kk⟩)]) (lkI_sound ⟨S.estafetteref8_Space_at hI mI, trivial⟩) (lkI_mono _) mixed A.estafetteref8_Space_Del Tryz.func25 rfl (by kernel_rfl) (by kernel_rfl) Tryz.call25 fun args h K hs => ?_
  match args, hs with
  | [a0, a1], hs => exact ⟨Nat.le_of_ble_eq_true (by kernel_rfl), Eq.mp (by kernel_rfl) hs⟩

def A.estafetteref8_Space_Get : An := (.seq .leaf (.seq .leaf (.seq (.seq .leaf (.cond (.seq .leaf .leaf) .leaf)) (.seq .leaf .leaf))))
theorem S.estafetteref8_Space_Get (hI : SoundI Tryz.prog J I) (mI : MonoI I) : SoundF Tryz.prog J 27 (F.estafetteref8_Space_Get ⟨I, kk⟩) := by
  refine SoundF.of_walk (I := lkI [(64, F.estafetteref8_Space_at ⟨I, kk⟩)]) (lkI_sound ⟨S.estafetteref8_Space_at hI mI, trivial⟩) (lkI_mono _) mixed A.estafetteref8_Space_Get Tryz.func27 rfl (by kernel_rfl) (by kernel_rfl) Tryz.call27 fun args h K hs => ?_
  match args, hs with
  | [a0, a1], hs => exact ⟨Nat.le_of_ble_eq_true (by kernel_rfl), Eq.mp (by kernel_rfl) hs⟩

def A.maps_Keys_map_string_string_string_string : An := (.seq .leaf (.seq .leaf .leaf))
theorem S.maps_Keys_map_string_string_string_string (hI : SoundI Tryz.prog J I) (mI : MonoI I) : SoundF Tryz.prog J 90 (F.maps_Keys_map_string_string_string_string ⟨I, kk⟩) := by
  refine SoundF.of_walk (I := lkI []) (lkI_sound trivial) (lkI_mono _) mixed A.maps_Keys_map_string_string_string_string Tryz.func90 rfl (by kernel_rfl) (by kernel_rfl) Tryz.call90 fun args h K hs => ?_
  match args, hs with
  | [a0], hs => exact ⟨Nat.le_of_ble_eq_true (by kernel_rfl), Eq.mp (by kernel_rfl) hs⟩

def A.table_Table_Keys : An := (.seq .leaf (.seq (.seq .leaf (.cond (.seq .leaf .leaf) .leaf)) (.seq .leaf .leaf)))
theorem S.table_Table_Keys (hI : SoundI Tryz.prog J I) (mI : MonoI I) : SoundF Tryz.prog J 55 (F.table_Table_Keys ⟨I, kk⟩) := by
  refine SoundF.of_walk (I := lkI [(90, F.maps_Keys_map_string_string_string_string ⟨I, kk⟩), (89, F.slices_Sorted_string ⟨I, kk⟩)]) (lkI_sound ⟨S.maps_Keys_map_string_string_string_string hI mI, S.slices_Sorted_string hI mI, trivial⟩) (lkI_mono _) mixed A.table_Table_Keys Tryz.func55 rfl (by kernel_rfl) (by kernel_rfl) Tryz.call55 fun args h K hs => ?_
  match args, hs with
  | [a0], hs => exact ⟨Nat.le_of_ble_eq_true (by kernel_rfl), Eq.mp (by kernel_rfl) hs⟩

def A.estafettelaw8_sameTable : An := (.seq .leaf (.seq .leaf (.seq (.seq .leaf (.cond (.seq .leaf .leaf) .leaf)) (.seq (.seq .leaf (.block (.loop 9223372036854251984 [6] (.seq (.seq .leaf (.cond .leaf .leaf)) (.seq (.block (.seq .leaf (.seq (.draw #[0, 1, 3, 7, 7, 31, 63, 7, 135, 391, 903, 7, 3975, 8071, 16263, 32767, 65535, 131071, 262143, 262143, 786431, 1835007, 3932159, 262143, 16515071, 33292287, 66846719, 134217727, 268435455] (.q 0 (.q 1 (.q 2 (.q 3 (.q 4 (.q 5 (.q 6 (.q 7 (.q 8 (.q 9 (.q 10 (.q 11 (.q 12 (.q 13 (.q 14 (.q 15 (.q 16 (.q 17 (.q 18 (.q 19 (.q 20 (.q 21 (.q 22 (.q 23 (.q 24 (.q 25 (.q 26 (.q 27 (.q 28 .done)))))))))))))))))))))))))))))) (.cond (.seq .leaf .leaf) .leaf)))) .leaf))))) (.seq .leaf .leaf)))))
theorem S.estafettelaw8_sameTable (hI : SoundI Tryz.prog J I) (mI : MonoI I) : SoundF Tryz.prog J 28 (F.estafettelaw8_sameTable ⟨I, kk⟩) := by
  refine SoundF.of_walk (I := lkI [(55, F.table_Table_Keys ⟨I, kk⟩), (26, F.table_Table_Get ⟨I, kk⟩)]) (lkI_sound ⟨S.table_Table_Keys hI mI, S.table_Table_Get hI mI, trivial⟩) (lkI_mono _) mixed A.estafettelaw8_sameTable Tryz.func28 rfl (by kernel_rfl) (by kernel_rfl) Tryz.call28 fun args h K hs => ?_
  match args, hs with
  | [a0, a1], hs => exact ⟨Nat.le_of_ble_eq_true (by kernel_rfl), Eq.mp (by kernel_rfl) hs⟩

def A.estafettelaw8_TableAll : An := (.seq .leaf (.seq .leaf (.seq (.seq .leaf (.cond (.seq .leaf .leaf) .leaf)) (.seq .leaf (.seq .leaf (.seq (.seq .leaf (.block (.loop 20282409603651670423947242913732 [6, 7, 8] (.seq (.seq .leaf (.cond .leaf .leaf)) (.seq (.block (.seq .leaf (.seq (.seq .leaf (.join 19807040628566083848630189252 [6, 7] (.block (.seq (.seq .leaf (.join 11529215046068469760 [61] (.cond .leaf .leaf))) (.cond (.seq (.draw #[0, 0, 2, 0, 8, 31, 0, 0, 128, 0, 512, 2047, 4095] (.q 0 (.q 1 (.q 2 (.q 3 (.q 4 (.q 6 (.q 7 (.q 8 (.q 9 (.q 10 (.c 5 [8, 10] (.c 11 [] (.q 12 .done)))))))))))))) (.cond (.seq .leaf .leaf) .leaf)) (.seq .leaf (.cond (.seq (.draw #[0, 0, 2, 7, 0, 0, 32, 127, 255] (.q 0 (.q 1 (.q 2 (.q 4 (.q 5 (.q 6 (.c 3 [6] (.c 7 [] (.q 8 .done)))))))))) (.cond (.seq .leaf .leaf) .leaf)) (.seq .leaf (.cond .leaf (.seq .leaf (.seq .leaf (.seq .leaf (.cond (.seq .leaf .leaf) .leaf))))))))))))) (.seq .leaf (.cond (.seq .leaf .leaf) .leaf))))) .leaf))))) (.seq .leaf .leaf)))))))
theorem S.estafettelaw8_TableAll (hI : SoundI Tryz.prog J I) (mI : MonoI I) : SoundF Tryz.prog J 3 (F.estafettelaw8_TableAll ⟨I, kk⟩) := by
  refine SoundF.of_walk (I := lkI [(17, F.estafettelaw8_begun ⟨I, kk⟩), (18, F.table_New ⟨I, kk⟩), (19, F.estafetteref8_New ⟨I, kk⟩), (20, F.table_Table_Clone ⟨I, kk⟩), (21, F.estafetteref8_Space_Clone ⟨I, kk⟩), (22, F.table_Table_Put ⟨I, kk⟩), (23, F.estafetteref8_Space_Put ⟨I, kk⟩), (24, F.table_Table_Del ⟨I, kk⟩), (25, F.estafetteref8_Space_Del ⟨I, kk⟩), (26, F.table_Table_Get ⟨I, kk⟩), (27, F.estafetteref8_Space_Get ⟨I, kk⟩), (28, F.estafettelaw8_sameTable ⟨I, kk⟩)]) (lkI_sound ⟨S.estafettelaw8_begun hI mI, S.table_New hI mI, S.estafetteref8_New hI mI, S.table_Table_Clone hI mI, S.estafetteref8_Space_Clone hI mI, S.table_Table_Put hI mI, S.estafetteref8_Space_Put hI mI, S.table_Table_Del hI mI, S.estafetteref8_Space_Del hI mI, S.table_Table_Get hI mI, S.estafetteref8_Space_Get hI mI, S.estafettelaw8_sameTable hI mI, trivial⟩) (lkI_mono _) mixed A.estafettelaw8_TableAll Tryz.func3 rfl (by kernel_rfl) (by kernel_rfl) Tryz.call3 fun args h K hs => ?_
  match args, hs with
  | [a0], hs => exact ⟨Nat.le_of_ble_eq_true (by kernel_rfl), Eq.mp (by kernel_rfl) hs⟩

def A.queue_New : An := (.seq .leaf (.seq .leaf .leaf))
theorem S.queue_New (hI : SoundI Tryz.prog J I) (mI : MonoI I) : SoundF Tryz.prog J 29 (F.queue_New ⟨I, kk⟩) := by
  refine SoundF.of_walk (I := lkI []) (lkI_sound trivial) (lkI_mono _) mixed A.queue_New Tryz.func29 rfl (by kernel_rfl) (by kernel_rfl) Tryz.call29 fun args h K hs => ?_
  match args, hs with
  | [a0], hs => exact ⟨Nat.le_of_ble_eq_true (by kernel_rfl), Eq.mp (by kernel_rfl) hs⟩

def A.slices_Clone_Sapi_Msg_api_Msg : An := (.seq .leaf (.seq (.seq .leaf (.cond (.seq .leaf .leaf) .leaf)) (.seq .leaf .leaf)))
theorem S.slices_Clone_Sapi_Msg_api_Msg (hI : SoundI Tryz.prog J I) (mI : MonoI I) : SoundF Tryz.prog J 66 (F.slices_Clone_Sapi_Msg_api_Msg ⟨I, kk⟩) := by
  refine SoundF.of_walk (I := lkI []) (lkI_sound trivial) (lkI_mono _) mixed A.slices_Clone_Sapi_Msg_api_Msg Tryz.func66 rfl (by kernel_rfl) (by kernel_rfl) Tryz.call66 fun args h K hs => ?_
  match args, hs with
  | [a0], hs => exact ⟨Nat.le_of_ble_eq_true (by kernel_rfl), Eq.mp (by kernel_rfl) hs⟩

def A.queue_Queue_Clone : An := (.seq .leaf (.seq (.seq .leaf (.cond (.seq .leaf .leaf) .leaf)) (.seq (.draw #[0, 1, 3, 7, 0, 16, 48, 112, 240, 0, 512, 1536, 3584, 8176, 0, 16384, 49152, 114688, 262143, 524287, 1048575] (.q 0 (.q 1 (.q 2 (.q 3 (.q 4 (.q 5 (.q 6 (.q 7 (.q 9 (.q 10 (.q 11 (.q 12 (.q 14 (.q 15 (.q 16 (.q 17 (.c 8 [3, 12, 17] (.c 13 [3, 17] (.q 18 (.c 19 [] (.q 20 .done)))))))))))))))))))))) .leaf)))
theorem S.queue_Queue_Clone (hI : SoundI Tryz.prog J I) (mI : MonoI I) : SoundF Tryz.prog J 30 (F.queue_Queue_Clone ⟨I, kk⟩) := by
  refine SoundF.of_walk (I := lkI [(66, F.slices_Clone_Sapi_Msg_api_Msg ⟨I, kk⟩)]) (lkI_sound ⟨S.slices_Clone_Sapi_Msg_api_Msg hI mI, trivial⟩) (lkI_mono _) mixed A.queue_Queue_Clone Tryz.func30 rfl (by kernel_rfl) (by kernel_rfl) Tryz.call30 fun args h K hs => ?_
  match args, hs with
  | [a0], hs => exact ⟨Nat.le_of_ble_eq_true (by kernel_rfl), Eq.mp (by kernel_rfl) hs⟩

def A.queue_Queue_Send : An := (.seq .leaf (.seq (.seq (.draw #[0, 1, 3, 7, 15, 31, 63, 127, 7, 263, 775, 1799, 3847, 8191, 16383, 32767] (.q 0 (.q 1 (.q 2 (.q 3 (.q 4 (.q 5 (.q 6 (.q 7 (.q 8 (.q 9 (.q 10 (.q 11 (.q 12 (.q 13 (.q 14 (.q 15 .done))))))))))))))))) (.cond (.seq .leaf .leaf) .leaf)) (.seq (.draw #[0, 0, 2, 6, 14, 0, 32, 96, 224, 0, 992, 2016, 4094, 8191, 16383, 32767] (.q 0 (.q 1 (.q 2 (.q 3 (.q 4 (.q 5 (.q 6 (.q 7 (.q 8 (.q 9 (.q 10 (.c 11 [4] (.c 12 [] (.q 13 (.q 14 (.c 15 [] .done))))))))))))))))) (.seq .leaf (.seq .leaf .leaf)))))
theorem S.queue_Queue_Send (hI : SoundI Tryz.prog J I) (mI : MonoI I) : SoundF Tryz.prog J 31 (F.queue_Queue_Send ⟨I, kk⟩) := by
  refine SoundF.of_walk (I := lkI []) (lkI_sound trivial) (lkI_mono _) mixed A.queue_Queue_Send Tryz.func31 rfl (by kernel_rfl) (by kernel_rfl) Tryz.call31 fun args h K hs => ?_
  match args, hs with
  | [a0, a1], hs => exact ⟨Nat.le_of_ble_eq_true (by kernel_rfl), Eq.mp (by kernel_rfl) hs⟩

def A.estafetteref8_Space_Send : An := (.seq .leaf (.seq (.seq (.draw #[0, 1, 3, 7, 15, 0, 32, 96, 224, 480, 1023, 2047] (.q 0 (.q 1 (.q 2 (.q 3 (.q 4 (.q 5 (.q 6 (.q 7 (.q 8 (.q 9 (.q 10 (.q 11 .done))))))))))))) (.cond (.seq .leaf .leaf) .leaf)) (.seq (.draw #[0, 0, 2, 6, 14, 0, 32, 96, 224, 0, 992, 2016, 4094, 8191, 16383, 32767] (.q 0 (.q 1 (.q 2 (.q 3 (.q 4 (.q 5 (.q 6 (.q 7 (.q 8 (.q 9 (.q 10 (.c 11 [4] (.c 12 [] (.q 13 (.q 14 (.c 15 [] .done))))))))))))))))) (.seq .leaf (.seq .leaf .leaf)))))
theorem S.estafetteref8_Space_Send (hI : SoundI Tryz.prog J I) (mI : MonoI I) : SoundF Tryz.prog J 32 (F.estafetteref8_Space_Send ⟨I, kk⟩) := by
  refine SoundF.of_walk (I := lkI []) (lkI_sound trivial) (lkI_mono _) mixed A.estafetteref8_Space_Send Tryz.func32 rfl (by kernel_rfl) (by kernel_rfl) Tryz.call32 fun args h K hs => ?_
  match args, hs with
  | [a0, a1], hs => exact ⟨Nat.le_of_ble_eq_true (by kernel_rfl), Eq.mp (by kernel_rfl) hs⟩

def A.slices_Delete_Sapi_Msg_api_Msg : An := (.seq .leaf (.seq .leaf (.seq (.seq .leaf (.cond (.seq .leaf .leaf) .leaf)) (.seq .leaf (.seq (.draw #[0, 0, 3, 0, 0, 24, 63, 127] (.q 0 (.q 1 (.q 2 (.q 3 (.q 4 (.q 5 (.c 6 [] (.q 7 .done))))))))) (.seq .leaf (.seq .leaf .leaf)))))))
theorem S.slices_Delete_Sapi_Msg_api_Msg (hI : SoundI Tryz.prog J I) (mI : MonoI I) : SoundF Tryz.prog J 67 (F.slices_Delete_Sapi_Msg_api_Msg ⟨I, kk⟩) := by
  refine SoundF.of_walk (I := lkI []) (lkI_sound trivial) (lkI_mono _) mixed A.slices_Delete_Sapi_Msg_api_Msg Tryz.func67 rfl (by kernel_rfl) (by kernel_rfl) Tryz.call67 fun args h K hs => ?_
  match args, hs with
  | [a0, a1, a2], hs => exact ⟨Nat.le_of_ble_eq_true (by kernel_rfl), Eq.mp (by kernel_rfl) hs⟩

def A.queue_Queue_Recv : An := (.seq .leaf (.seq (.seq .leaf (.cond (.seq .leaf .leaf) .leaf)) (.seq (.seq .leaf (.block (.loop 1267650600228229401496166335360 [8] (.seq (.seq .leaf (.cond .leaf .leaf)) (.block (.seq .leaf (.block (.seq .leaf (.cond .leaf (.seq (.draw #[0, 1, 3, 7, 0, 16, 48, 112, 255, 511] (.q 0 (.q 1 (.q 2 (.q 3 (.q 4 (.q 5 (.q 6 (.q 7 (.q 8 (.q 9 .done))))))))))) (.cond (.seq (.draw #[0, 0, 2, 6, 14, 0, 32, 96, 224, 510, 1023, 2047, 4095] (.q 0 (.q 1 (.q 2 (.q 3 (.q 4 (.q 5 (.q 6 (.q 7 (.c 8 [4] (.c 9 [] (.q 10 (.q 11 (.c 12 [] .done)))))))))))))) .leaf) (.seq .leaf (.seq .leaf (.seq .leaf .leaf)))))))))))))) (.seq .leaf .leaf))))
theorem S.queue_Queue_Recv (hI : SoundI Tryz.prog J I) (mI : MonoI I) : SoundF Tryz.prog J 33 (F.queue_Queue_Recv ⟨I, kk⟩) := by
  refine SoundF.of_walk (I := lkI [(67, F.slices_Delete_Sapi_Msg_api_Msg ⟨I, kk⟩)]) (lkI_sound ⟨S.slices_Delete_Sapi_Msg_api_Msg hI mI, trivial⟩) (lkI_mono _) mixed A.queue_Queue_Recv Tryz.func33 rfl (by kernel_rfl) (by kernel_rfl) Tryz.call33 fun args h K hs => ?_
  match args, hs with
  | [a0, a1, a2], hs => exact ⟨Nat.le_of_ble_eq_true (by kernel_rfl), Eq.mp (by kernel_rfl) hs⟩

def A.estafetteref8_Space_Recv : An := (.seq .leaf (.seq (.seq .leaf (.cond (.seq .leaf .leaf) .leaf)) (.seq .leaf (.seq .leaf (.seq (.seq .leaf (.block (.loop 19807040628566084398117559552 [8, 10] (.seq (.seq .leaf (.cond .leaf .leaf)) (.seq (.block (.seq .leaf (.seq .leaf (.seq (.join 1237940038997149898747412480 [] (.block (.seq (.draw #[0, 1, 3, 7, 3, 19, 51, 115, 255, 511, 1023] (.q 0 (.q 1 (.q 2 (.q 3 (.q 4 (.q 5 (.q 6 (.q 7 (.q 8 (.q 9 (.q 10 .done)))))))))))) (.cond (.seq (.draw #[0, 0, 2, 6, 14, 0, 32, 126, 255, 511, 1023] (.q 0 (.q 1 (.q 2 (.q 3 (.q 4 (.q 5 (.c 6 [4] (.c 7 [] (.q 8 (.q 9 (.c 10 [] .done)))))))))))) .leaf) (.seq .leaf (.cond (.seq .leaf .leaf) .leaf)))))) .leaf)))) .leaf))))) (.seq .leaf (.seq (.draw #[0, 0, 2, 6, 1, 31] (.q 0 (.q 1 (.q 2 (.q 3 (.c 4 [2] (.q 5 .done))))))) .leaf)))))))
theorem S.estafetteref8_Space_Recv (hI : SoundI Tryz.prog J I) (mI : MonoI I) : SoundF Tryz.prog J 34 (F.estafetteref8_Space_Recv ⟨I, kk⟩) := by
  refine SoundF.of_walk (I := lkI []) (lkI_sound trivial) (lkI_mono _) mixed A.estafetteref8_Space_Recv Tryz.func34 rfl (by kernel_rfl) (by kernel_rfl) Tryz.call34 fun args h K hs => ?_
  match args, hs with
  | [a0, a1, a2], hs => exact ⟨Nat.le_of_ble_eq_true (by kernel_rfl), Eq.mp (by kernel_rfl) hs⟩

def A.slices_IndexFunc_Sapi_Msg_api_Msg : An := (.seq .leaf (.seq (.seq .leaf (.block (.loop 524080 [8] (.seq .leaf (.seq (.cond .leaf .leaf) (.seq (.block (.seq .leaf (.seq .leaf (.cond (.seq .leaf .leaf) .leaf)))) .leaf)))))) (.seq .leaf .leaf)))
theorem S.slices_IndexFunc_Sapi_Msg_api_Msg (hI : SoundI Tryz.prog J I) (mI : MonoI I) : SoundF Tryz.prog J 68 (F.slices_IndexFunc_Sapi_Msg_api_Msg ⟨I, kk⟩) := by
  refine SoundF.of_walk (I := I) hI mI mixed A.slices_IndexFunc_Sapi_Msg_api_Msg Tryz.func68 rfl (by kernel_rfl) (by kernel_rfl) Tryz.call68 fun args h K hs => ?_
  match args, hs with
  | [a0, a1], hs => exact ⟨Nat.le_of_ble_eq_true (by kernel_rfl), Eq.mp (by kernel_rfl) hs⟩

def A.queue_Queue_Ack_1 : An := (.seq .leaf (.seq .leaf .leaf))
theorem S.queue_Queue_Ack_1 (hI : SoundI Tryz.prog J I) (mI : MonoI I) : SoundF Tryz.prog J 69 (F.queue_Queue_Ack_1 ⟨I, kk⟩) := by
  refine SoundF.of_walk (I := lkI []) (lkI_sound trivial) (lkI_mono _) mixed A.queue_Queue_Ack_1 Tryz.func69 rfl (by kernel_rfl) (by kernel_rfl) Tryz.call69 fun args h K hs => ?_
  match args, hs with
  | [a0, a1, a2, a3], hs => exact ⟨Nat.le_of_ble_eq_true (by kernel_rfl), Eq.mp (by kernel_rfl) hs⟩

def A.queue_Queue_Ack : An := (.seq .leaf (.seq (.seq .leaf (.cond (.seq .leaf .leaf) .leaf)) (.seq .leaf (.seq (.seq .leaf (.cond (.seq .leaf .leaf) .leaf)) (.seq .leaf (.seq .leaf .leaf))))))
theorem S.queue_Queue_Ack (hI : SoundI Tryz.prog J I) (mI : MonoI I) : SoundF Tryz.prog J 35 (F.queue_Queue_Ack ⟨I, kk⟩) := by
  refine SoundF.of_walk (I := lkI [(68, F.slices_IndexFunc_Sapi_Msg_api_Msg ⟨I, kk⟩), (67, F.slices_Delete_Sapi_Msg_api_Msg ⟨I, kk⟩)]) (lkI_sound ⟨S.slices_IndexFunc_Sapi_Msg_api_Msg hI mI, S.slices_Delete_Sapi_Msg_api_Msg hI mI, trivial⟩) (lkI_mono _) mixed A.queue_Queue_Ack Tryz.func35 rfl (by kernel_rfl) (by kernel_rfl) Tryz.call35 fun args h K hs => ?_
  match args, hs with
  | [a0, a1, a2, a3], hs => exact ⟨Nat.le_of_ble_eq_true (by kernel_rfl), Eq.mp (by kernel_rfl) hs⟩

def A.estafetteref8_Space_Ack : An := (.seq .leaf (.seq (.seq .leaf (.block (.loop 2305843009213693696 [9] (.seq (.seq .leaf (.cond .leaf .leaf)) (.seq (.block (.seq .leaf (.seq .leaf (.cond (.seq (.draw #[0, 0, 2, 6, 14, 0, 62, 126, 0, 256, 768, 1792, 0, 4096, 16128, 32766, 65535, 131071, 262143] (.q 0 (.q 1 (.q 2 (.q 3 (.q 4 (.q 5 (.q 6 (.q 8 (.q 9 (.q 10 (.q 11 (.q 12 (.q 13 (.q 14 (.c 7 [11, 14] (.c 15 [] (.q 16 (.q 17 (.c 18 [] .done)))))))))))))))))))) (.seq .leaf .leaf)) .leaf)))) .leaf))))) (.seq .leaf .leaf)))
theorem S.estafetteref8_Space_Ack (hI : SoundI Tryz.prog J I) (mI : MonoI I) : SoundF Tryz.prog J 36 (F.estafetteref8_Space_Ack ⟨I, kk⟩) := by
  refine SoundF.of_walk (I := lkI []) (lkI_sound trivial) (lkI_mono _) mixed A.estafetteref8_Space_Ack Tryz.func36 rfl (by kernel_rfl) (by kernel_rfl) Tryz.call36 fun args h K hs => ?_
  match args, hs with
  | [a0, a1, a2, a3], hs => exact ⟨Nat.le_of_ble_eq_true (by kernel_rfl), Eq.mp (by kernel_rfl) hs⟩

def A.queue_Queue_Dead : An := (.seq .leaf (.seq (.seq .leaf (.cond (.seq .leaf .leaf) .leaf)) (.seq .leaf (.seq .leaf (.seq .leaf .leaf)))))
theorem S.queue_Queue_Dead (hI : SoundI Tryz.prog J I) (mI : MonoI I) : SoundF Tryz.prog J 37 (F.queue_Queue_Dead ⟨I, kk⟩) := by
  refine SoundF.of_walk (I := lkI [(67, F.slices_Delete_Sapi_Msg_api_Msg ⟨I, kk⟩)]) (lkI_sound ⟨S.slices_Delete_Sapi_Msg_api_Msg hI mI, trivial⟩) (lkI_mono _) mixed A.queue_Queue_Dead Tryz.func37 rfl (by kernel_rfl) (by kernel_rfl) Tryz.call37 fun args h K hs => ?_
  match args, hs with
  | [a0], hs => exact ⟨Nat.le_of_ble_eq_true (by kernel_rfl), Eq.mp (by kernel_rfl) hs⟩

def A.estafetteref8_Space_Dead : An := (.seq .leaf (.seq (.seq .leaf (.cond (.seq .leaf .leaf) .leaf)) (.seq .leaf (.seq .leaf (.seq .leaf .leaf)))))
theorem S.estafetteref8_Space_Dead (hI : SoundI Tryz.prog J I) (mI : MonoI I) : SoundF Tryz.prog J 38 (F.estafetteref8_Space_Dead ⟨I, kk⟩) := by
  refine SoundF.of_walk (I := lkI []) (lkI_sound trivial) (lkI_mono _) mixed A.estafetteref8_Space_Dead Tryz.func38 rfl (by kernel_rfl) (by kernel_rfl) Tryz.call38 fun args h K hs => ?_
  match args, hs with
  | [a0], hs => exact ⟨Nat.le_of_ble_eq_true (by kernel_rfl), Eq.mp (by kernel_rfl) hs⟩

def A.queue_Queue_Items : An := (.seq .leaf (.seq (.seq .leaf (.cond (.seq .leaf .leaf) .leaf)) (.seq .leaf .leaf)))
theorem S.queue_Queue_Items (hI : SoundI Tryz.prog J I) (mI : MonoI I) : SoundF Tryz.prog J 40 (F.queue_Queue_Items ⟨I, kk⟩) := by
  refine SoundF.of_walk (I := lkI [(66, F.slices_Clone_Sapi_Msg_api_Msg ⟨I, kk⟩)]) (lkI_sound ⟨S.slices_Clone_Sapi_Msg_api_Msg hI mI, trivial⟩) (lkI_mono _) mixed A.queue_Queue_Items Tryz.func40 rfl (by kernel_rfl) (by kernel_rfl) Tryz.call40 fun args h K hs => ?_
  match args, hs with
  | [a0], hs => exact ⟨Nat.le_of_ble_eq_true (by kernel_rfl), Eq.mp (by kernel_rfl) hs⟩

def A.estafettelaw8_msgs : An := (.seq .leaf (.seq (.seq .leaf (.cond (.seq .leaf .leaf) .leaf)) (.seq (.seq .leaf (.block (.loop 67106864 [5] (.seq (.seq .leaf (.cond .leaf .leaf)) (.seq (.block (.seq (.draw #[0, 0, 3, 7, 0, 0, 48, 112, 255] (.q 0 (.q 1 (.q 2 (.q 3 (.q 4 (.q 5 (.q 6 (.q 7 (.q 8 .done)))))))))) (.cond (.seq .leaf .leaf) .leaf))) .leaf))))) (.seq .leaf .leaf))))
theorem S.estafettelaw8_msgs (hI : SoundI Tryz.prog J I) (mI : MonoI I) : SoundF Tryz.prog J 39 (F.estafettelaw8_msgs ⟨I, kk⟩) := by
  refine SoundF.of_walk (I := lkI []) (lkI_sound trivial) (lkI_mono _) mixed A.estafettelaw8_msgs Tryz.func39 rfl (by kernel_rfl) (by kernel_rfl) Tryz.call39 fun args h K hs => ?_
  match args, hs with
  | [a0, a1], hs => exact ⟨Nat.le_of_ble_eq_true (by kernel_rfl), Eq.mp (by kernel_rfl) hs⟩

def A.queue_Queue_Lost : An := (.seq .leaf (.seq (.seq .leaf (.cond (.seq .leaf .leaf) .leaf)) (.seq .leaf .leaf)))
theorem S.queue_Queue_Lost (hI : SoundI Tryz.prog J I) (mI : MonoI I) : SoundF Tryz.prog J 41 (F.queue_Queue_Lost ⟨I, kk⟩) := by
  refine SoundF.of_walk (I := lkI [(66, F.slices_Clone_Sapi_Msg_api_Msg ⟨I, kk⟩)]) (lkI_sound ⟨S.slices_Clone_Sapi_Msg_api_Msg hI mI, trivial⟩) (lkI_mono _) mixed A.queue_Queue_Lost Tryz.func41 rfl (by kernel_rfl) (by kernel_rfl) Tryz.call41 fun args h K hs => ?_
  match args, hs with
  | [a0], hs => exact ⟨Nat.le_of_ble_eq_true (by kernel_rfl), Eq.mp (by kernel_rfl) hs⟩

def A.queue_Queue_Next : An := (.seq .leaf (.seq (.seq .leaf (.cond (.seq .leaf .leaf) .leaf)) (.seq .leaf .leaf)))
theorem S.queue_Queue_Next (hI : SoundI Tryz.prog J I) (mI : MonoI I) : SoundF Tryz.prog J 42 (F.queue_Queue_Next ⟨I, kk⟩) := by
  refine SoundF.of_walk (I := lkI []) (lkI_sound trivial) (lkI_mono _) mixed A.queue_Queue_Next Tryz.func42 rfl (by kernel_rfl) (by kernel_rfl) Tryz.call42 fun args h K hs => ?_
  match args, hs with
  | [a0], hs => exact ⟨Nat.le_of_ble_eq_true (by kernel_rfl), Eq.mp (by kernel_rfl) hs⟩

def A.estafettelaw8_QueueAll : An := (.seq .leaf (.seq .leaf (.seq (.seq .leaf (.cond (.seq .leaf .leaf) .leaf)) (.seq .leaf (.seq .leaf (.seq (.seq .leaf (.block (.loop 50216813883093446110686315385661331328818843555677933141776 [8, 9, 10] (.seq (.seq .leaf (.cond .leaf .leaf)) (.seq (.block (.seq .leaf (.seq (.seq .leaf (.join 356811923176489970264571492360121984298775312 [8, 9] (.block (.seq (.seq .leaf (.join 180143985094819840 [55] (.cond .leaf .leaf))) (.cond (.seq .leaf (.seq .leaf (.seq .leaf (.cond (.seq .leaf .leaf) .leaf)))) (.seq (.seq .leaf (.join 6044629098073145873530880 [80] (.cond .leaf .leaf))) (.cond (.seq .leaf (.seq .leaf (.seq .leaf (.cond (.seq .leaf .leaf) .leaf)))) (.seq .leaf (.cond (.seq (.draw #[0, 0, 2, 0, 8, 0, 32, 127, 0, 0, 512, 0, 2048, 0, 8192, 32767, 65535] (.q 0 (.q 1 (.q 2 (.q 3 (.q 4 (.q 5 (.q 6 (.q 8 (.q 9 (.q 10 (.q 11 (.q 12 (.q 13 (.q 14 (.c 7 [10, 12, 14] (.c 15 [] (.q 16 .done)))))))))))))))))) (.cond (.seq .leaf .leaf) .leaf)) (.seq .leaf (.cond (.seq .leaf (.seq .leaf (.seq .leaf (.cond (.seq .leaf .leaf) .leaf)))) .leaf))))))))))) (.seq (.draw #[0, 1, 0, 4, 12, 28, 63, 127, 255, 511, 1023, 511, 2559, 6655, 14847, 32767, 65535, 131071, 262143, 524287, 1048575, 524287, 2621439, 6815743, 15204351, 33554431, 67108863, 134217727, 268435455, 536870911, 268435455, 1342177279, 3489660927, 7784628223, 17179869183, 34359738367, 68719476735, 137438953471, 274877906943, 549755813887, 274877906943, 1374389534719, 3573412790271, 7971459301375, 17592186044415, 35184372088831, 70368744177663] (.q 0 (.q 2 (.q 3 (.q 4 (.q 5 (.c 1 [5] (.c 6 [] (.q 7 (.q 8 (.q 9 (.q 11 (.q 12 (.q 13 (.q 14 (.c 10 [14] (.c 15 [] (.q 16 (.q 17 (.q 18 (.q 19 (.q 21 (.q 22 (.q 23 (.q 24 (.c 20 [24] (.q 25 (.q 26 (.q 27 (.q 28 (.q 30 (.q 31 (.q 32 (.q 33 (.c 29 [33] (.c 34 [] (.q 35 (.q 36 (.q 37 (.q 38 (.q 40 (.q 41 (.q 42 (.q 43 (.c 39 [43] (.c 44 [] (.q 45 (.q 46 .done)))))))))))))))))))))))))))))))))))))))))))))))) (.cond (.seq .leaf .leaf) .leaf))))) .leaf))))) (.seq .leaf .leaf)))))))
theorem S.estafettelaw8_QueueAll (hI : SoundI Tryz.prog J I) (mI : MonoI I) : SoundF Tryz.prog J 4 (F.estafettelaw8_QueueAll ⟨I, kk⟩) := by
  refine SoundF.of_walk (I := lkI [(17, F.estafettelaw8_begun ⟨I, kk⟩), (29, F.queue_New ⟨I, kk⟩), (19, F.estafetteref8_New ⟨I, kk⟩), (30, F.queue_Queue_Clone ⟨I, kk⟩), (21, F.estafetteref8_Space_Clone ⟨I, kk⟩), (31, F.queue_Queue_Send ⟨I, kk⟩), (32, F.estafetteref8_Space_Send ⟨I, kk⟩), (33, F.queue_Queue_Recv ⟨I, kk⟩), (34, F.estafetteref8_Space_Recv ⟨I, kk⟩), (35, F.queue_Queue_Ack ⟨I, kk⟩), (36, F.estafetteref8_Space_Ack ⟨I, kk⟩), (37, F.queue_Queue_Dead ⟨I, kk⟩), (38, F.estafetteref8_Space_Dead ⟨I, kk⟩), (40, F.queue_Queue_Items ⟨I, kk⟩), (39, F.estafettelaw8_msgs ⟨I, kk⟩), (41, F.queue_Queue_Lost ⟨I, kk⟩), (42, F.queue_Queue_Next ⟨I, kk⟩)]) (lkI_sound ⟨S.estafettelaw8_begun hI mI, S.queue_New hI mI, S.estafetteref8_New hI mI, S.queue_Queue_Clone hI mI, S.estafetteref8_Space_Clone hI mI, S.queue_Queue_Send hI mI, S.estafetteref8_Space_Send hI mI, S.queue_Queue_Recv hI mI, S.estafetteref8_Space_Recv hI mI, S.queue_Queue_Ack hI mI, S.estafetteref8_Space_Ack hI mI, S.queue_Queue_Dead hI mI, S.estafetteref8_Space_Dead hI mI, S.queue_Queue_Items hI mI, S.estafettelaw8_msgs hI mI, S.queue_Queue_Lost hI mI, S.queue_Queue_Next hI mI, trivial⟩) (lkI_mono _) mixed A.estafettelaw8_QueueAll Tryz.func4 rfl (by kernel_rfl) (by kernel_rfl) Tryz.call4 fun args h K hs => ?_
  match args, hs with
  | [a0, a1], hs => exact ⟨Nat.le_of_ble_eq_true (by kernel_rfl), Eq.mp (by kernel_rfl) hs⟩

def A.estafettelaw8_QueueOnce : An := (.seq .leaf (.seq .leaf (.seq (.seq .leaf (.cond (.seq .leaf .leaf) .leaf)) (.seq .leaf (.seq .leaf (.seq .leaf (.seq (.seq .leaf (.block (.loop 23945242826029513411849172299223580994042798518763152 [7, 9] (.seq (.seq .leaf (.cond .leaf .leaf)) (.seq (.block (.seq .leaf (.seq (.seq .leaf (.join 39614081257132151204585961616 [7] (.block (.seq (.seq .leaf (.join 87960930222080 [44] (.cond .leaf .leaf))) (.cond (.seq .leaf (.seq .leaf (.cond (.seq .leaf (.seq .leaf (.cond (.seq .leaf .leaf) .leaf))) .leaf))) (.seq (.seq .leaf (.join 1441151880758558720 [58] (.cond .leaf .leaf))) (.cond .leaf (.seq .leaf (.cond (.seq .leaf (.cond .leaf .leaf)) (.seq .leaf (.cond (.seq .leaf (.seq .leaf (.cond .leaf .leaf))) .leaf))))))))))) (.seq .leaf (.seq (.seq .leaf (.block (.loop 1461501637330902915668383632259824216662527082512 [15, 101] (.seq .leaf (.seq (.cond .leaf .leaf) (.seq (.block (.seq .leaf (.seq .leaf (.seq (.seq .leaf (.block (.loop 91343852333181391822911094741426840833994031120 [15, 18, 19] (.seq (.seq .leaf (.cond .leaf .leaf)) (.seq (.block (.seq (.seq .leaf (.cond (.seq .leaf .leaf) .leaf)) (.seq .leaf .leaf))) .leaf))))) (.seq .leaf (.cond (.seq .leaf .leaf) .leaf)))))) .leaf)))))) (.seq (.seq .leaf (.block (.loop 368298412607387535387328577844503320953295002927120 [] (.seq .leaf (.seq (.cond .leaf .leaf) (.block (.seq .leaf (.seq .leaf (.cond (.seq .leaf .leaf) .leaf))))))))) (.seq .leaf (.cond (.seq .leaf .leaf) .leaf)))))))) .leaf))))) (.seq .leaf .leaf))))))))
theorem S.estafettelaw8_QueueOnce (hI : SoundI Tryz.prog J I) (mI : MonoI I) : SoundF Tryz.prog J 5 (F.estafettelaw8_QueueOnce ⟨I, kk⟩) := by
  refine SoundF.of_walk (I := lkI [(17, F.estafettelaw8_begun ⟨I, kk⟩), (29, F.queue_New ⟨I, kk⟩), (31, F.queue_Queue_Send ⟨I, kk⟩), (33, F.queue_Queue_Recv ⟨I, kk⟩), (35, F.queue_Queue_Ack ⟨I, kk⟩), (37, F.queue_Queue_Dead ⟨I, kk⟩), (40, F.queue_Queue_Items ⟨I, kk⟩), (41, F.queue_Queue_Lost ⟨I, kk⟩)]) (lkI_sound ⟨S.estafettelaw8_begun hI mI, S.queue_New hI mI, S.queue_Queue_Send hI mI, S.queue_Queue_Recv hI mI, S.queue_Queue_Ack hI mI, S.queue_Queue_Dead hI mI, S.queue_Queue_Items hI mI, S.queue_Queue_Lost hI mI, trivial⟩) (lkI_mono _) mixed A.estafettelaw8_QueueOnce Tryz.func5 rfl (by kernel_rfl) (by kernel_rfl) Tryz.call5 fun args h K hs => ?_
  match args, hs with
  | [a0, a1], hs => exact ⟨Nat.le_of_ble_eq_true (by kernel_rfl), Eq.mp (by kernel_rfl) hs⟩

def A.estafettelaw8_QueueFair : An := (.seq .leaf (.seq .leaf (.seq (.seq .leaf (.cond (.seq .leaf .leaf) .leaf)) (.seq .leaf (.seq .leaf (.seq .leaf (.seq .leaf (.seq (.seq .leaf (.block (.loop 72057585447996992 [9] (.seq (.seq .leaf (.cond .leaf .leaf)) (.seq (.block (.seq .leaf (.seq .leaf (.cond (.seq .leaf .leaf) .leaf)))) .leaf))))) (.seq .leaf (.seq (.seq .leaf (.block (.loop 4951760156853290723444842560 [13] (.seq (.seq .leaf (.cond .leaf .leaf)) (.seq (.block (.seq .leaf (.seq .leaf (.cond (.seq .leaf .leaf) .leaf)))) .leaf))))) (.seq .leaf (.seq .leaf (.seq .leaf .leaf)))))))))))))
theorem S.estafettelaw8_QueueFair (hI : SoundI Tryz.prog J I) (mI : MonoI I) : SoundF Tryz.prog J 6 (F.estafettelaw8_QueueFair ⟨I, kk⟩) := by
  refine SoundF.of_walk (I := lkI [(17, F.estafettelaw8_begun ⟨I, kk⟩), (29, F.queue_New ⟨I, kk⟩), (31, F.queue_Queue_Send ⟨I, kk⟩), (33, F.queue_Queue_Recv ⟨I, kk⟩)]) (lkI_sound ⟨S.estafettelaw8_begun hI mI, S.queue_New hI mI, S.queue_Queue_Send hI mI, S.queue_Queue_Recv hI mI, trivial⟩) (lkI_mono _) mixed A.estafettelaw8_QueueFair Tryz.func6 rfl (by kernel_rfl) (by kernel_rfl) Tryz.call6 fun args h K hs => ?_
  match args, hs with
  | [a0, a1, a2], hs => exact ⟨Nat.le_of_ble_eq_true (by kernel_rfl), Eq.mp (by kernel_rfl) hs⟩

def A.topic_New : An := (.seq .leaf (.seq .leaf .leaf))
theorem S.topic_New (hI : SoundI Tryz.prog J I) (mI : MonoI I) : SoundF Tryz.prog J 43 (F.topic_New ⟨I, kk⟩) := by
  refine SoundF.of_walk (I := lkI []) (lkI_sound trivial) (lkI_mono _) mixed A.topic_New Tryz.func43 rfl (by kernel_rfl) (by kernel_rfl) Tryz.call43 fun args h K hs => ?_
  match args, hs with
  | [], hs => exact ⟨Nat.le_of_ble_eq_true (by kernel_rfl), Eq.mp (by kernel_rfl) hs⟩

def A.topic_Topic_Len : An := (.seq .leaf (.seq (.seq .leaf (.cond (.seq .leaf .leaf) .leaf)) (.seq .leaf .leaf)))
theorem S.topic_Topic_Len (hI : SoundI Tryz.prog J I) (mI : MonoI I) : SoundF Tryz.prog J 57 (F.topic_Topic_Len ⟨I, kk⟩) := by
  refine SoundF.of_walk (I := lkI []) (lkI_sound trivial) (lkI_mono _) mixed A.topic_Topic_Len Tryz.func57 rfl (by kernel_rfl) (by kernel_rfl) Tryz.call57 fun args h K hs => ?_
  match args, hs with
  | [a0], hs => exact ⟨Nat.le_of_ble_eq_true (by kernel_rfl), Eq.mp (by kernel_rfl) hs⟩

def A.topic_Topic_Pub : An := (.seq .leaf (.seq (.seq .leaf (.cond (.seq .leaf .leaf) .leaf)) (.seq .leaf (.seq .leaf .leaf))))
theorem S.topic_Topic_Pub (hI : SoundI Tryz.prog J I) (mI : MonoI I) : SoundF Tryz.prog J 44 (F.topic_Topic_Pub ⟨I, kk⟩) := by
  refine SoundF.of_walk (I := lkI [(57, F.topic_Topic_Len ⟨I, kk⟩)]) (lkI_sound ⟨S.topic_Topic_Len hI mI, trivial⟩) (lkI_mono _) mixed A.topic_Topic_Pub Tryz.func44 rfl (by kernel_rfl) (by kernel_rfl) Tryz.call44 fun args h K hs => ?_
  match args, hs with
  | [a0, a1], hs => exact ⟨Nat.le_of_ble_eq_true (by kernel_rfl), Eq.mp (by kernel_rfl) hs⟩

def A.topic_Topic_At : An := (.seq .leaf (.seq (.seq .leaf (.cond (.seq .leaf .leaf) .leaf)) (.seq .leaf .leaf)))
theorem S.topic_Topic_At (hI : SoundI Tryz.prog J I) (mI : MonoI I) : SoundF Tryz.prog J 46 (F.topic_Topic_At ⟨I, kk⟩) := by
  refine SoundF.of_walk (I := lkI []) (lkI_sound trivial) (lkI_mono _) mixed A.topic_Topic_At Tryz.func46 rfl (by kernel_rfl) (by kernel_rfl) Tryz.call46 fun args h K hs => ?_
  match args, hs with
  | [a0, a1], hs => exact ⟨Nat.le_of_ble_eq_true (by kernel_rfl), Eq.mp (by kernel_rfl) hs⟩

def A.topic_Topic_Seek : An := (.seq .leaf (.seq (.seq .leaf (.cond (.seq .leaf .leaf) .leaf)) (.seq (.seq .leaf (.seq .leaf (.cond (.seq .leaf .leaf) .leaf))) (.seq .leaf (.seq .leaf .leaf)))))
theorem S.topic_Topic_Seek (hI : SoundI Tryz.prog J I) (mI : MonoI I) : SoundF Tryz.prog J 45 (F.topic_Topic_Seek ⟨I, kk⟩) := by
  refine SoundF.of_walk (I := lkI [(46, F.topic_Topic_At ⟨I, kk⟩), (57, F.topic_Topic_Len ⟨I, kk⟩)]) (lkI_sound ⟨S.topic_Topic_At hI mI, S.topic_Topic_Len hI mI, trivial⟩) (lkI_mono _) mixed A.topic_Topic_Seek Tryz.func45 rfl (by kernel_rfl) (by kernel_rfl) Tryz.call45 fun args h K hs => ?_
  match args, hs with
  | [a0, a1, a2, a3], hs => exact ⟨Nat.le_of_ble_eq_true (by kernel_rfl), Eq.mp (by kernel_rfl) hs⟩

def A.slices_Clone_Sstring_string : An := (.seq .leaf (.seq (.seq .leaf (.cond (.seq .leaf .leaf) .leaf)) (.seq .leaf .leaf)))
theorem S.slices_Clone_Sstring_string (hI : SoundI Tryz.prog J I) (mI : MonoI I) : SoundF Tryz.prog J 70 (F.slices_Clone_Sstring_string ⟨I, kk⟩) := by
  refine SoundF.of_walk (I := lkI []) (lkI_sound trivial) (lkI_mono _) mixed A.slices_Clone_Sstring_string Tryz.func70 rfl (by kernel_rfl) (by kernel_rfl) Tryz.call70 fun args h K hs => ?_
  match args, hs with
  | [a0], hs => exact ⟨Nat.le_of_ble_eq_true (by kernel_rfl), Eq.mp (by kernel_rfl) hs⟩

def A.topic_Topic_Fetch : An := (.seq .leaf (.seq .leaf (.seq .leaf (.seq (.seq .leaf (.cond (.seq .leaf .leaf) .leaf)) (.seq .leaf .leaf)))))
theorem S.topic_Topic_Fetch (hI : SoundI Tryz.prog J I) (mI : MonoI I) : SoundF Tryz.prog J 47 (F.topic_Topic_Fetch ⟨I, kk⟩) := by
  refine SoundF.of_walk (I := lkI [(46, F.topic_Topic_At ⟨I, kk⟩), (57, F.topic_Topic_Len ⟨I, kk⟩), (70, F.slices_Clone_Sstring_string ⟨I, kk⟩)]) (lkI_sound ⟨S.topic_Topic_At hI mI, S.topic_Topic_Len hI mI, S.slices_Clone_Sstring_string hI mI, trivial⟩) (lkI_mono _) mixed A.topic_Topic_Fetch Tryz.func47 rfl (by kernel_rfl) (by kernel_rfl) Tryz.call47 fun args h K hs => ?_
  match args, hs with
  | [a0, a1, a2], hs => exact ⟨Nat.le_of_ble_eq_true (by kernel_rfl), Eq.mp (by kernel_rfl) hs⟩

def A.estafettelaw8_TopicRise : An := (.seq .leaf (.seq .leaf (.seq (.seq .leaf (.cond (.seq .leaf .leaf) .leaf)) (.seq .leaf (.seq .leaf (.seq (.seq .leaf (.block (.loop 266338432 [7] (.seq (.seq .leaf (.cond .leaf .leaf)) (.seq (.block .leaf) .leaf))))) (.seq .leaf (.seq (.seq .leaf (.block (.loop 618970019642690137181134608 [8, 9] (.seq (.seq .leaf (.cond .leaf .leaf)) (.seq (.block (.seq (.draw #[0, 0, 3, 7, 15, 31, 0, 0, 192, 448, 960, 1984, 63, 8191] (.q 0 (.q 1 (.q 2 (.q 3 (.q 4 (.q 5 (.q 6 (.q 7 (.q 8 (.q 9 (.q 10 (.q 11 (.q 12 (.q 13 .done))))))))))))))) (.seq .leaf (.seq (.seq .leaf (.cond (.seq .leaf .leaf) .leaf)) (.seq (.seq .leaf (.join 1180591620717411303680 [8] (.cond .leaf .leaf))) (.seq .leaf (.cond (.seq .leaf .leaf) .leaf))))))) .leaf))))) (.seq .leaf .leaf)))))))))
theorem S.estafettelaw8_TopicRise (hI : SoundI Tryz.prog J I) (mI : MonoI I) : SoundF Tryz.prog J 7 (F.estafettelaw8_TopicRise ⟨I, kk⟩) := by
  refine SoundF.of_walk (I := lkI [(17, F.estafettelaw8_begun ⟨I, kk⟩), (43, F.topic_New ⟨I, kk⟩), (44, F.topic_Topic_Pub ⟨I, kk⟩), (45, F.topic_Topic_Seek ⟨I, kk⟩), (46, F.topic_Topic_At ⟨I, kk⟩), (47, F.topic_Topic_Fetch ⟨I, kk⟩)]) (lkI_sound ⟨S.estafettelaw8_begun hI mI, S.topic_New hI mI, S.topic_Topic_Pub hI mI, S.topic_Topic_Seek hI mI, S.topic_Topic_At hI mI, S.topic_Topic_Fetch hI mI, trivial⟩) (lkI_mono _) mixed A.estafettelaw8_TopicRise Tryz.func7 rfl (by kernel_rfl) (by kernel_rfl) Tryz.call7 fun args h K hs => ?_
  match args, hs with
  | [a0, a1], hs => exact ⟨Nat.le_of_ble_eq_true (by kernel_rfl), Eq.mp (by kernel_rfl) hs⟩

def A.space_New : An := (.seq .leaf (.seq .leaf (.seq (.seq .leaf (.block (.seq .leaf (.cond .leaf (.seq .leaf (.cond .leaf (.seq .leaf (.cond .leaf (.seq .leaf .leaf))))))))) (.seq .leaf .leaf))))
theorem S.space_New (hI : SoundI Tryz.prog J I) (mI : MonoI I) : SoundF Tryz.prog J 48 (F.space_New ⟨I, kk⟩) := by
  refine SoundF.of_walk (I := lkI [(18, F.table_New ⟨I, kk⟩), (29, F.queue_New ⟨I, kk⟩), (43, F.topic_New ⟨I, kk⟩)]) (lkI_sound ⟨S.table_New hI mI, S.queue_New hI mI, S.topic_New hI mI, trivial⟩) (lkI_mono _) mixed A.space_New Tryz.func48 rfl (by kernel_rfl) (by kernel_rfl) Tryz.call48 fun args h K hs => ?_
  match args, hs with
  | [a0, a1], hs => exact ⟨Nat.le_of_ble_eq_true (by kernel_rfl), Eq.mp (by kernel_rfl) hs⟩

def A.maps_Clone_map_string_int64_string_int64 : An := (.seq .leaf (.seq (.seq .leaf (.cond (.seq .leaf .leaf) .leaf)) (.seq .leaf .leaf)))
theorem S.maps_Clone_map_string_int64_string_int64 (hI : SoundI Tryz.prog J I) (mI : MonoI I) : SoundF Tryz.prog J 92 (F.maps_Clone_map_string_int64_string_int64 ⟨I, kk⟩) := by
  refine SoundF.of_walk (I := lkI [(94, F.maps_clone ⟨I, kk⟩)]) (lkI_sound ⟨S.maps_clone hI mI, trivial⟩) (lkI_mono _) mixed A.maps_Clone_map_string_int64_string_int64 Tryz.func92 rfl (by kernel_rfl) (by kernel_rfl) Tryz.call92 fun args h K hs => ?_
  match args, hs with
  | [a0], hs => exact ⟨Nat.le_of_ble_eq_true (by kernel_rfl), Eq.mp (by kernel_rfl) hs⟩

def A.topic_Topic_Clone : An := (.seq .leaf (.seq (.seq .leaf (.cond (.seq .leaf .leaf) .leaf)) (.seq (.draw #[0, 1, 3, 7, 15, 0, 32, 96, 224, 511, 1023, 2047, 4095] (.q 0 (.q 1 (.q 2 (.q 3 (.q 5 (.q 6 (.q 7 (.q 8 (.c 4 [8] (.c 9 [] (.q 10 (.c 11 [] (.q 12 .done)))))))))))))) .leaf)))
theorem S.topic_Topic_Clone (hI : SoundI Tryz.prog J I) (mI : MonoI I) : SoundF Tryz.prog J 58 (F.topic_Topic_Clone ⟨I, kk⟩) := by
  refine SoundF.of_walk (I := lkI [(70, F.slices_Clone_Sstring_string ⟨I, kk⟩), (92, F.maps_Clone_map_string_int64_string_int64 ⟨I, kk⟩)]) (lkI_sound ⟨S.slices_Clone_Sstring_string hI mI, S.maps_Clone_map_string_int64_string_int64 hI mI, trivial⟩) (lkI_mono _) mixed A.topic_Topic_Clone Tryz.func58 rfl (by kernel_rfl) (by kernel_rfl) Tryz.call58 fun args h K hs => ?_
  match args, hs with
  | [a0], hs => exact ⟨Nat.le_of_ble_eq_true (by kernel_rfl), Eq.mp (by kernel_rfl) hs⟩

def A.space_Space_Clone : An := (.seq .leaf (.seq (.seq .leaf (.cond (.seq .leaf .leaf) .leaf)) (.seq (.draw #[0, 1, 3, 7, 0, 16, 48, 112, 240, 0, 512, 1536, 3584, 8176, 0, 16384, 49152, 114688, 262128, 524287, 1048575, 2097151] (.q 0 (.q 1 (.q 2 (.q 3 (.q 4 (.q 5 (.q 6 (.q 7 (.q 9 (.q 10 (.q 11 (.q 12 (.q 14 (.q 15 (.q 16 (.q 17 (.c 8 [3, 12, 17] (.c 13 [3, 17] (.c 18 [3] (.q 19 (.c 20 [] (.q 21 .done))))))))))))))))))))))) .leaf)))
theorem S.space_Space_Clone (hI : SoundI Tryz.prog J I) (mI : MonoI I) : SoundF Tryz.prog J 49 (F.space_Space_Clone ⟨I, kk⟩) := by
  refine SoundF.of_walk (I := lkI [(20, F.table_Table_Clone ⟨I, kk⟩), (30, F.queue_Queue_Clone ⟨I, kk⟩), (58, F.topic_Topic_Clone ⟨I, kk⟩)]) (lkI_sound ⟨S.table_Table_Clone hI mI, S.queue_Queue_Clone hI mI, S.topic_Topic_Clone hI mI, trivial⟩) (lkI_mono _) mixed A.space_Space_Clone Tryz.func49 rfl (by kernel_rfl) (by kernel_rfl) Tryz.call49 fun args h K hs => ?_
  match args, hs with
  | [a0], hs => exact ⟨Nat.le_of_ble_eq_true (by kernel_rfl), Eq.mp (by kernel_rfl) hs⟩

def A.space_Space_table : An := (.seq .leaf (.seq (.seq .leaf (.block (.seq .leaf (.cond (.seq (.draw #[0, 1, 3, 7, 0, 16, 0, 64, 255] (.q 0 (.q 1 (.q 2 (.q 3 (.q 4 (.q 5 (.q 6 (.q 7 (.c 8 [] .done)))))))))) (.seq .leaf .leaf)) (.seq .leaf (.cond (.seq (.seq (.draw #[0, 1, 3, 7, 0, 16, 63] (.q 0 (.q 1 (.q 2 (.q 3 (.q 4 (.q 5 (.c 6 [] .done)))))))) (.cond (.seq .leaf .leaf) .leaf)) (.seq .leaf .leaf)) .leaf)))))) (.seq (.seq (.draw #[0, 1, 3, 7, 0, 16, 63, 127, 255, 255, 511, 2047] (.q 0 (.q 1 (.q 2 (.q 3 (.q 4 (.q 5 (.c 6 [] (.q 7 (.q 8 (.q 9 (.q 10 (.q 11 .done))))))))))))) (.seq .leaf (.cond (.seq .leaf .leaf) .leaf))) (.seq .leaf .leaf))))
theorem S.space_Space_table (hI : SoundI Tryz.prog J I) (mI : MonoI I) : SoundF Tryz.prog J 71 (F.space_Space_table ⟨I, kk⟩) := by
  refine SoundF.of_walk (I := lkI [(22, F.table_Table_Put ⟨I, kk⟩), (24, F.table_Table_Del ⟨I, kk⟩), (26, F.table_Table_Get ⟨I, kk⟩)]) (lkI_sound ⟨S.table_Table_Put hI mI, S.table_Table_Del hI mI, S.table_Table_Get hI mI, trivial⟩) (lkI_mono _) mixed A.space_Space_table Tryz.func71 rfl (by kernel_rfl) (by kernel_rfl) Tryz.call71 fun args h K hs => ?_
  match args, hs with
  | [a0, a1], hs => exact ⟨Nat.le_of_ble_eq_true (by kernel_rfl), Eq.mp (by kernel_rfl) hs⟩

def A.space_text : An := (.seq .leaf (.seq .leaf .leaf))
theorem S.space_text (hI : SoundI Tryz.prog J I) (mI : MonoI I) : SoundF Tryz.prog J 95 (F.space_text ⟨I, kk⟩) := by
  refine SoundF.of_walk (I := lkI [(114, F.strconv_FormatInt ⟨I, kk⟩)]) (lkI_sound ⟨S.strconv_FormatInt hI mI, trivial⟩) (lkI_mono _) mixed A.space_text Tryz.func95 rfl (by kernel_rfl) (by kernel_rfl) Tryz.call95 fun args h K hs => ?_
  match args, hs with
  | [a0], hs => exact ⟨Nat.le_of_ble_eq_true (by kernel_rfl), Eq.mp (by kernel_rfl) hs⟩

def A.space_number : An := (.seq .leaf (.seq (.seq .leaf (.cond (.seq .leaf .leaf) .leaf)) (.seq .leaf (.seq (.draw #[0, 0, 2, 1, 15] (.q 0 (.q 1 (.q 2 (.q 3 (.q 4 .done)))))) .leaf))))
theorem S.space_number (hI : SoundI Tryz.prog J I) (mI : MonoI I) : SoundF Tryz.prog J 96 (F.space_number ⟨I, kk⟩) := by
  refine SoundF.of_walk (I := lkI [(115, F.strings_Trim ⟨I, kk⟩), (116, F.strconv_ParseInt ⟨I, kk⟩)]) (lkI_sound ⟨S.strings_Trim hI mI, S.strconv_ParseInt hI mI, trivial⟩) (lkI_mono _) mixed A.space_number Tryz.func96 rfl (by kernel_rfl) (by kernel_rfl) Tryz.call96 fun args h K hs => ?_
  match args, hs with
  | [a0], hs => exact ⟨Nat.le_of_ble_eq_true (by kernel_rfl), Eq.mp (by kernel_rfl) hs⟩

def A.space_Space_queue : An := (.seq .leaf (.seq (.seq .leaf (.block (.seq .leaf (.cond (.seq (.draw #[0, 1, 3, 7, 0, 16, 63, 127, 255, 255, 511, 2047] (.q 0 (.q 1 (.q 2 (.q 3 (.q 4 (.q 5 (.c 6 [] (.q 7 (.q 8 (.q 9 (.q 10 (.q 11 .done))))))))))))) (.seq (.seq .leaf (.cond (.seq .leaf .leaf) .leaf)) (.seq .leaf .leaf))) (.seq .leaf (.cond (.seq (.draw #[0, 1, 3, 7, 0, 0, 32, 127, 255, 511, 511, 0, 3071, 8191] (.q 0 (.q 1 (.q 2 (.q 3 (.q 4 (.q 5 (.q 6 (.fork (.c 7 [] (.q 8 (.q 9 (.q 10 (.c 11 [3, 6] (.c 12 [] (.q 13 .done))))))) (.c 11 [3, 6] (.c 7 [] (.q 8 (.q 9 (.q 10 (.c 12 [] (.q 13 .done)))))))))))))))) (.seq .leaf (.cond (.seq (.draw #[0, 1, 3, 7, 0, 16, 55, 127, 255, 0, 512, 2047, 4095, 8191] (.q 0 (.q 1 (.q 4 (.q 5 (.q 9 (.q 10 (.c 2 [5, 10] (.q 3 (.c 6 [10] (.q 7 (.q 8 (.q 11 (.q 12 (.q 13 .done))))))))))))))) .leaf) .leaf))) (.seq .leaf (.cond (.seq .leaf (.seq (.seq .leaf (.cond (.seq .leaf .leaf) .leaf)) (.seq (.draw #[0, 1, 3, 7, 0, 16, 0, 0, 255, 511] (.q 0 (.q 1 (.q 2 (.q 3 (.q 4 (.q 5 (.q 6 (.q 7 (.c 8 [] (.q 9 .done))))))))))) (.cond (.seq .leaf .leaf) .leaf)))) (.seq .leaf (.cond (.seq .leaf (.seq .leaf (.cond (.seq (.draw #[0, 1, 3, 7, 0, 16, 63, 127, 255] (.q 0 (.q 1 (.q 4 (.q 5 (.c 2 [5] (.q 3 (.q 6 (.q 7 (.q 8 .done)))))))))) .leaf) .leaf))) .leaf)))))))))) (.seq .leaf .leaf)))
theorem S.space_Space_queue (hI : SoundI Tryz.prog J I) (mI : MonoI I) : SoundF Tryz.prog J 72 (F.space_Space_queue ⟨I, kk⟩) := by
  refine SoundF.of_walk (I := lkI [(31, F.queue_Queue_Send ⟨I, kk⟩), (95, F.space_text ⟨I, kk⟩), (33, F.queue_Queue_Recv ⟨I, kk⟩), (96, F.space_number ⟨I, kk⟩), (35, F.queue_Queue_Ack ⟨I, kk⟩), (37, F.queue_Queue_Dead ⟨I, kk⟩)]) (lkI_sound ⟨S.queue_Queue_Send hI mI, S.space_text hI mI, S.queue_Queue_Recv hI mI, S.space_number hI mI, S.queue_Queue_Ack hI mI, S.queue_Queue_Dead hI mI, trivial⟩) (lkI_mono _) mixed A.space_Space_queue Tryz.func72 rfl (by kernel_rfl) (by kernel_rfl) Tryz.call72 fun args h K hs => ?_
  match args, hs with
  | [a0, a1, a2], hs => exact ⟨Nat.le_of_ble_eq_true (by kernel_rfl), Eq.mp (by kernel_rfl) hs⟩

def A.space_Space_topic : An := (.seq .leaf (.seq (.seq .leaf (.block (.seq .leaf (.cond (.seq (.draw #[0, 1, 3, 7, 0, 16, 63, 127, 255, 255, 511, 2047] (.q 0 (.q 1 (.q 2 (.q 3 (.q 4 (.q 5 (.c 6 [] (.q 7 (.q 8 (.q 9 (.q 10 (.q 11 .done))))))))))))) (.seq (.seq .leaf (.cond (.seq .leaf .leaf) .leaf)) (.seq .leaf .leaf))) (.seq .leaf (.cond (.seq .leaf (.seq (.seq (.draw #[0, 1, 3, 7, 0, 16, 0, 64, 255, 511, 0] (.q 0 (.q 1 (.q 2 (.q 3 (.q 4 (.q 5 (.q 6 (.q 7 (.q 10 (.c 8 [] (.q 9 .done)))))))))))) (.join 18446726481523510528 [8] (.block (.loop 18446726481523510528 [8, 44] (.seq .leaf (.seq (.cond .leaf .leaf) (.seq (.block (.seq .leaf (.seq .leaf (.seq (.seq .leaf (.cond .leaf .leaf)) .leaf)))) .leaf))))))) (.seq .leaf .leaf))) .leaf)))))) (.seq .leaf (.seq (.seq .leaf (.cond (.seq .leaf .leaf) .leaf)) (.seq (.seq (.draw #[0, 1, 3, 7, 0, 16, 0, 0, 128, 511, 1023] (.q 0 (.q 1 (.q 2 (.q 3 (.q 4 (.q 5 (.q 6 (.q 7 (.q 8 (.c 9 [] (.q 10 .done)))))))))))) (.cond (.seq .leaf .leaf) .leaf)) (.seq .leaf .leaf))))))
theorem S.space_Space_topic (hI : SoundI Tryz.prog J I) (mI : MonoI I) : SoundF Tryz.prog J 73 (F.space_Space_topic ⟨I, kk⟩) := by
  refine SoundF.of_walk (I := lkI [(44, F.topic_Topic_Pub ⟨I, kk⟩), (95, F.space_text ⟨I, kk⟩), (47, F.topic_Topic_Fetch ⟨I, kk⟩), (96, F.space_number ⟨I, kk⟩), (45, F.topic_Topic_Seek ⟨I, kk⟩)]) (lkI_sound ⟨S.topic_Topic_Pub hI mI, S.space_text hI mI, S.topic_Topic_Fetch hI mI, S.space_number hI mI, S.topic_Topic_Seek hI mI, trivial⟩) (lkI_mono _) mixed A.space_Space_topic Tryz.func73 rfl (by kernel_rfl) (by kernel_rfl) Tryz.call73 fun args h K hs => ?_
  match args, hs with
  | [a0, a1], hs => exact ⟨Nat.le_of_ble_eq_true (by kernel_rfl), Eq.mp (by kernel_rfl) hs⟩

def A.space_Space_Do : An := (.seq .leaf (.seq (.block (.seq .leaf (.cond (.seq .leaf .leaf) (.seq .leaf (.cond (.seq .leaf .leaf) (.seq .leaf (.cond (.seq .leaf .leaf) (.seq .leaf (.cond (.seq .leaf .leaf) .leaf))))))))) (.seq .leaf .leaf)))
theorem S.space_Space_Do (hI : SoundI Tryz.prog J I) (mI : MonoI I) : SoundF Tryz.prog J 50 (F.space_Space_Do ⟨I, kk⟩) := by
  refine SoundF.of_walk (I := lkI [(71, F.space_Space_table ⟨I, kk⟩), (72, F.space_Space_queue ⟨I, kk⟩), (73, F.space_Space_topic ⟨I, kk⟩)]) (lkI_sound ⟨S.space_Space_table hI mI, S.space_Space_queue hI mI, S.space_Space_topic hI mI, trivial⟩) (lkI_mono _) mixed A.space_Space_Do Tryz.func50 rfl (by kernel_rfl) (by kernel_rfl) Tryz.call50 fun args h K hs => ?_
  match args, hs with
  | [a0, a1, a2], hs => exact ⟨Nat.le_of_ble_eq_true (by kernel_rfl), Eq.mp (by kernel_rfl) hs⟩

def A.estafetteref8_had : An := (.seq .leaf (.seq (.seq .leaf (.cond (.seq .leaf .leaf) .leaf)) (.seq .leaf .leaf)))
theorem S.estafetteref8_had (hI : SoundI Tryz.prog J I) (mI : MonoI I) : SoundF Tryz.prog J 74 (F.estafetteref8_had ⟨I, kk⟩) := by
  refine SoundF.of_walk (I := lkI []) (lkI_sound trivial) (lkI_mono _) mixed A.estafetteref8_had Tryz.func74 rfl (by kernel_rfl) (by kernel_rfl) Tryz.call74 fun args h K hs => ?_
  match args, hs with
  | [a0, a1], hs => exact ⟨Nat.le_of_ble_eq_true (by kernel_rfl), Eq.mp (by kernel_rfl) hs⟩

def A.estafetteref8_Dec : An := (.seq .leaf (.seq (.seq .leaf (.cond (.seq .leaf .leaf) .leaf)) (.seq .leaf .leaf)))
theorem Sr.estafetteref8_Dec (hI : SoundI Tryz.prog J I) (mI : MonoI I) : ∀ fuel, SoundF Tryz.prog J 61 (Fr.estafetteref8_Dec fuel ⟨I, kk⟩)
  | 0 => SoundF.no
  | fuel + 1 => by
    refine SoundF.of_walk (I := lkI [(61, Fr.estafetteref8_Dec fuel ⟨I, kk⟩)]) (lkI_sound ⟨Sr.estafetteref8_Dec hI mI fuel, trivial⟩) (lkI_mono _) mixed A.estafetteref8_Dec Tryz.func61 rfl (by kernel_rfl) (by kernel_rfl) Tryz.call61 fun args h K hs => ?_
    match args, hs with
    | [a0], hs => exact ⟨Nat.le_of_ble_eq_true (by kernel_rfl), Eq.mp (by kernel_rfl) hs⟩

theorem S.estafetteref8_Dec (hI : SoundI Tryz.prog J I) (mI : MonoI I) : SoundF Tryz.prog J 61 (F.estafetteref8_Dec ⟨I, kk⟩) := SoundF.ex (Sr.estafetteref8_Dec hI mI)

def A.estafetteref8_full : An := (.seq .leaf (.seq (.seq .leaf (.cond (.seq .leaf .leaf) .leaf)) (.seq .leaf .leaf)))
theorem S.estafetteref8_full (hI : SoundI Tryz.prog J I) (mI : MonoI I) : SoundF Tryz.prog J 75 (F.estafetteref8_full ⟨I, kk⟩) := by
  refine SoundF.of_walk (I := lkI [(61, F.estafetteref8_Dec ⟨I, kk⟩)]) (lkI_sound ⟨S.estafetteref8_Dec hI mI, trivial⟩) (lkI_mono _) mixed A.estafetteref8_full Tryz.func75 rfl (by kernel_rfl) (by kernel_rfl) Tryz.call75 fun args h K hs => ?_
  match args, hs with
  | [a0, a1], hs => exact ⟨Nat.le_of_ble_eq_true (by kernel_rfl), Eq.mp (by kernel_rfl) hs⟩

def A.estafetteref8_Number : An := (.seq .leaf (.seq .leaf (.seq (.seq .leaf (.block (.loop 17179869180 [4, 5] (.seq (.seq .leaf (.cond .leaf .leaf)) (.seq (.block (.seq (.seq .leaf (.cond (.seq .leaf .leaf) .leaf)) .leaf)) .leaf))))) (.seq (.draw #[0, 0, 2, 6, 14, 30, 62, 126, 254, 510, 1022, 2046, 4094, 8190, 16382, 32766, 65534, 131070, 8191, 524287] (.q 0 (.q 1 (.q 2 (.q 3 (.q 4 (.q 5 (.q 6 (.q 7 (.q 8 (.q 9 (.q 10 (.q 11 (.q 12 (.q 13 (.q 14 (.q 15 (.q 16 (.q 17 (.q 18 (.q 19 .done))))))))))))))))))))) .leaf))))
theorem S.estafetteref8_Number (hI : SoundI Tryz.prog J I) (mI : MonoI I) : SoundF Tryz.prog J 76 (F.estafetteref8_Number ⟨I, kk⟩) := by
  refine SoundF.of_walk (I := lkI []) (lkI_sound trivial) (lkI_mono _) mixed A.estafetteref8_Number Tryz.func76 rfl (by kernel_rfl) (by kernel_rfl) Tryz.call76 fun args h K hs => ?_
  match args, hs with
  | [a0], hs => exact ⟨Nat.le_of_ble_eq_true (by kernel_rfl), Eq.mp (by kernel_rfl) hs⟩

def A.estafetteref8_none : An := (.seq .leaf (.seq (.seq .leaf (.cond (.seq .leaf .leaf) .leaf)) (.seq .leaf .leaf)))
theorem S.estafetteref8_none (hI : SoundI Tryz.prog J I) (mI : MonoI I) : SoundF Tryz.prog J 77 (F.estafetteref8_none ⟨I, kk⟩) := by
  refine SoundF.of_walk (I := lkI []) (lkI_sound trivial) (lkI_mono _) mixed A.estafetteref8_none Tryz.func77 rfl (by kernel_rfl) (by kernel_rfl) Tryz.call77 fun args h K hs => ?_
  match args, hs with
  | [a0], hs => exact ⟨Nat.le_of_ble_eq_true (by kernel_rfl), Eq.mp (by kernel_rfl) hs⟩

def A.estafetteref8_Space_Pub : An := (.seq .leaf (.seq (.seq .leaf (.cond (.seq .leaf .leaf) .leaf)) (.seq .leaf (.seq .leaf .leaf))))
theorem S.estafetteref8_Space_Pub (hI : SoundI Tryz.prog J I) (mI : MonoI I) : SoundF Tryz.prog J 78 (F.estafetteref8_Space_Pub ⟨I, kk⟩) := by
  refine SoundF.of_walk (I := lkI []) (lkI_sound trivial) (lkI_mono _) mixed A.estafetteref8_Space_Pub Tryz.func78 rfl (by kernel_rfl) (by kernel_rfl) Tryz.call78 fun args h K hs => ?_
  match args, hs with
  | [a0, a1], hs => exact ⟨Nat.le_of_ble_eq_true (by kernel_rfl), Eq.mp (by kernel_rfl) hs⟩

def A.estafetteref8_Space_Group : An := (.seq .leaf (.seq .leaf (.seq (.seq .leaf (.cond (.seq .leaf .leaf) .leaf)) (.seq .leaf .leaf))))
theorem S.estafetteref8_Space_Group (hI : SoundI Tryz.prog J I) (mI : MonoI I) : SoundF Tryz.prog J 97 (F.estafetteref8_Space_Group ⟨I, kk⟩) := by
  refine SoundF.of_walk (I := lkI [(64, F.estafetteref8_Space_at ⟨I, kk⟩)]) (lkI_sound ⟨S.estafetteref8_Space_at hI mI, trivial⟩) (lkI_mono _) mixed A.estafetteref8_Space_Group Tryz.func97 rfl (by kernel_rfl) (by kernel_rfl) Tryz.call97 fun args h K hs => ?_
  match args, hs with
  | [a0, a1], hs => exact ⟨Nat.le_of_ble_eq_true (by kernel_rfl), Eq.mp (by kernel_rfl) hs⟩

def A.estafetteref8_Space_Fetch : An := (.seq .leaf (.seq .leaf (.seq (.seq .leaf (.block (.loop 274877903232 [7, 8] (.seq (.seq .leaf (.cond .leaf .leaf)) (.seq (.block .leaf) .leaf))))) (.seq .leaf .leaf))))
theorem S.estafetteref8_Space_Fetch (hI : SoundI Tryz.prog J I) (mI : MonoI I) : SoundF Tryz.prog J 79 (F.estafetteref8_Space_Fetch ⟨I, kk⟩) := by
  refine SoundF.of_walk (I := lkI [(97, F.estafetteref8_Space_Group ⟨I, kk⟩)]) (lkI_sound ⟨S.estafetteref8_Space_Group hI mI, trivial⟩) (lkI_mono _) mixed A.estafetteref8_Space_Fetch Tryz.func79 rfl (by kernel_rfl) (by kernel_rfl) Tryz.call79 fun args h K hs => ?_
  match args, hs with
  | [a0, a1, a2], hs => exact ⟨Nat.le_of_ble_eq_true (by kernel_rfl), Eq.mp (by kernel_rfl) hs⟩

def A.estafetteref8_Space_Seek : An := (.seq .leaf (.seq .leaf (.seq (.seq .leaf (.cond (.seq .leaf .leaf) .leaf)) (.seq .leaf (.seq .leaf .leaf)))))
theorem S.estafetteref8_Space_Seek (hI : SoundI Tryz.prog J I) (mI : MonoI I) : SoundF Tryz.prog J 80 (F.estafetteref8_Space_Seek ⟨I, kk⟩) := by
  refine SoundF.of_walk (I := lkI [(64, F.estafetteref8_Space_at ⟨I, kk⟩), (97, F.estafetteref8_Space_Group ⟨I, kk⟩), (65, F.estafetteref8_Space_put ⟨I, kk⟩)]) (lkI_sound ⟨S.estafetteref8_Space_at hI mI, S.estafetteref8_Space_Group hI mI, S.estafetteref8_Space_put hI mI, trivial⟩) (lkI_mono _) mixed A.estafetteref8_Space_Seek Tryz.func80 rfl (by kernel_rfl) (by kernel_rfl) Tryz.call80 fun args h K hs => ?_
  match args, hs with
  | [a0, a1, a2, a3], hs => exact ⟨Nat.le_of_ble_eq_true (by kernel_rfl), Eq.mp (by kernel_rfl) hs⟩

def A.estafetteref8_Space_Do : An := (.seq .leaf (.seq (.block (.seq .leaf (.cond (.seq .leaf (.seq .leaf .leaf)) (.seq .leaf (.cond (.seq .leaf (.seq .leaf .leaf)) (.seq .leaf (.cond (.seq .leaf .leaf) (.seq .leaf (.cond (.seq .leaf .leaf) (.seq .leaf (.cond (.seq .leaf (.seq (.seq .leaf (.cond (.seq .leaf .leaf) .leaf)) (.seq (.draw #[0, 1, 3, 7, 0, 16, 55, 127, 255, 0, 512, 2047, 4095, 8191] (.q 0 (.q 1 (.q 4 (.q 5 (.q 9 (.q 10 (.c 2 [5, 10] (.q 3 (.c 6 [10] (.q 7 (.q 8 (.q 11 (.q 12 (.q 13 .done))))))))))))))) .leaf))) (.seq .leaf (.cond (.seq .leaf (.seq (.seq .leaf (.cond (.seq .leaf .leaf) .leaf)) (.seq .leaf .leaf))) (.seq .leaf (.cond (.seq .leaf (.seq (.seq .leaf (.cond (.seq .leaf .leaf) .leaf)) (.seq (.draw #[0, 1, 3, 7, 0, 16, 63, 127, 255] (.q 0 (.q 1 (.q 4 (.q 5 (.c 2 [5] (.q 3 (.q 6 (.q 7 (.q 8 .done)))))))))) .leaf))) (.seq .leaf (.cond (.seq .leaf .leaf) (.seq .leaf (.cond (.seq .leaf (.seq .leaf (.seq (.seq .leaf (.join 113078211303318263744873546464202563543595510848878850115389906848240697344 [16] (.block (.loop 113078211303318263744873546464202563543595510848878850115389906848240697344 [16, 18] (.seq (.seq .leaf (.cond .leaf .leaf)) (.seq (.block (.seq (.draw #[0, 0, 3, 7, 15, 31, 63, 0, 0, 384, 896, 2047, 4095] (.q 0 (.q 1 (.q 2 (.q 3 (.q 4 (.q 7 (.q 8 (.q 9 (.q 10 (.c 5 [10] (.q 6 (.q 11 (.q 12 .done)))))))))))))) (.seq (.seq .leaf (.cond .leaf .leaf)) .leaf))) .leaf)))))) (.seq .leaf .leaf)))) (.seq .leaf (.cond (.seq .leaf (.seq (.seq .leaf (.cond (.seq .leaf .leaf) .leaf)) (.seq .leaf .leaf))) .leaf))))))))))))))))))))) (.seq .leaf .leaf)))
theorem S.estafetteref8_Space_Do (hI : SoundI Tryz.prog J I) (mI : MonoI I) : SoundF Tryz.prog J 51 (F.estafetteref8_Space_Do ⟨I, kk⟩) := by
  refine SoundF.of_walk (I := lkI [(27, F.estafetteref8_Space_Get ⟨I, kk⟩), (74, F.estafetteref8_had ⟨I, kk⟩), (23, F.estafetteref8_Space_Put ⟨I, kk⟩), (25, F.estafetteref8_Space_Del ⟨I, kk⟩), (32, F.estafetteref8_Space_Send ⟨I, kk⟩), (75, F.estafetteref8_full ⟨I, kk⟩), (34, F.estafetteref8_Space_Recv ⟨I, kk⟩), (61, F.estafetteref8_Dec ⟨I, kk⟩), (76, F.estafetteref8_Number ⟨I, kk⟩), (36, F.estafetteref8_Space_Ack ⟨I, kk⟩), (77, F.estafetteref8_none ⟨I, kk⟩), (38, F.estafetteref8_Space_Dead ⟨I, kk⟩), (78, F.estafetteref8_Space_Pub ⟨I, kk⟩), (79, F.estafetteref8_Space_Fetch ⟨I, kk⟩), (80, F.estafetteref8_Space_Seek ⟨I, kk⟩)]) (lkI_sound ⟨S.estafetteref8_Space_Get hI mI, S.estafetteref8_had hI mI, S.estafetteref8_Space_Put hI mI, S.estafetteref8_Space_Del hI mI, S.estafetteref8_Space_Send hI mI, S.estafetteref8_full hI mI, S.estafetteref8_Space_Recv hI mI, S.estafetteref8_Dec hI mI, S.estafetteref8_Number hI mI, S.estafetteref8_Space_Ack hI mI, S.estafetteref8_none hI mI, S.estafetteref8_Space_Dead hI mI, S.estafetteref8_Space_Pub hI mI, S.estafetteref8_Space_Fetch hI mI, S.estafetteref8_Space_Seek hI mI, trivial⟩) (lkI_mono _) mixed A.estafetteref8_Space_Do Tryz.func51 rfl (by kernel_rfl) (by kernel_rfl) Tryz.call51 fun args h K hs => ?_
  match args, hs with
  | [a0, a1, a2], hs => exact ⟨Nat.le_of_ble_eq_true (by kernel_rfl), Eq.mp (by kernel_rfl) hs⟩

def A.maps_Keys_map_string_int64_string_int64 : An := (.seq .leaf (.seq .leaf .leaf))
theorem S.maps_Keys_map_string_int64_string_int64 (hI : SoundI Tryz.prog J I) (mI : MonoI I) : SoundF Tryz.prog J 91 (F.maps_Keys_map_string_int64_string_int64 ⟨I, kk⟩) := by
  refine SoundF.of_walk (I := lkI []) (lkI_sound trivial) (lkI_mono _) mixed A.maps_Keys_map_string_int64_string_int64 Tryz.func91 rfl (by kernel_rfl) (by kernel_rfl) Tryz.call91 fun args h K hs => ?_
  match args, hs with
  | [a0], hs => exact ⟨Nat.le_of_ble_eq_true (by kernel_rfl), Eq.mp (by kernel_rfl) hs⟩

def A.topic_Topic_Groups : An := (.seq .leaf (.seq (.seq .leaf (.cond (.seq .leaf .leaf) .leaf)) (.seq .leaf .leaf)))
theorem S.topic_Topic_Groups (hI : SoundI Tryz.prog J I) (mI : MonoI I) : SoundF Tryz.prog J 56 (F.topic_Topic_Groups ⟨I, kk⟩) := by
  refine SoundF.of_walk (I := lkI [(91, F.maps_Keys_map_string_int64_string_int64 ⟨I, kk⟩), (89, F.slices_Sorted_string ⟨I, kk⟩)]) (lkI_sound ⟨S.maps_Keys_map_string_int64_string_int64 hI mI, S.slices_Sorted_string hI mI, trivial⟩) (lkI_mono _) mixed A.topic_Topic_Groups Tryz.func56 rfl (by kernel_rfl) (by kernel_rfl) Tryz.call56 fun args h K hs => ?_
  match args, hs with
  | [a0], hs => exact ⟨Nat.le_of_ble_eq_true (by kernel_rfl), Eq.mp (by kernel_rfl) hs⟩

def A.estafettelaw8_sameTopic : An := (.seq .leaf (.seq .leaf (.seq (.seq (.draw #[0, 1, 0, 4, 12, 28, 60, 127, 255, 511, 1023, 511, 2559, 6655, 14847, 31231, 65535, 131071] (.q 0 (.q 2 (.q 3 (.q 4 (.q 5 (.q 6 (.c 1 [5] (.q 7 (.q 8 (.q 9 (.q 10 (.q 11 (.q 12 (.q 13 (.q 14 (.q 15 (.q 16 (.q 17 .done))))))))))))))))))) (.cond (.seq .leaf .leaf) .leaf)) (.seq (.seq .leaf (.block (.loop 9223372036720558160 [6] (.seq (.seq .leaf (.cond .leaf .leaf)) (.seq (.block (.seq (.draw #[0, 0, 3, 7, 0, 16, 48, 112, 0, 496, 1008, 2032, 4095, 8191, 16383, 16383, 16383, 114687, 245759, 524287, 16383, 1064959, 3162111, 7356415, 16383, 32522239, 66076671, 133185535, 268435455, 536870911] (.q 0 (.q 1 (.q 2 (.q 3 (.q 4 (.q 5 (.q 6 (.q 7 (.q 8 (.q 9 (.q 10 (.q 11 (.q 12 (.q 13 (.q 14 (.q 15 (.q 16 (.q 17 (.q 18 (.q 20 (.q 21 (.q 22 (.q 23 (.q 24 (.q 25 (.q 26 (.q 27 (.c 19 [23, 27] (.q 28 (.q 29 .done))))))))))))))))))))))))))))))) (.cond (.seq .leaf .leaf) .leaf))) .leaf))))) (.seq .leaf .leaf)))))
theorem S.estafettelaw8_sameTopic (hI : SoundI Tryz.prog J I) (mI : MonoI I) : SoundF Tryz.prog J 81 (F.estafettelaw8_sameTopic ⟨I, kk⟩) := by
  refine SoundF.of_walk (I := lkI [(56, F.topic_Topic_Groups ⟨I, kk⟩), (57, F.topic_Topic_Len ⟨I, kk⟩), (46, F.topic_Topic_At ⟨I, kk⟩)]) (lkI_sound ⟨S.topic_Topic_Groups hI mI, S.topic_Topic_Len hI mI, S.topic_Topic_At hI mI, trivial⟩) (lkI_mono _) mixed A.estafettelaw8_sameTopic Tryz.func81 rfl (by kernel_rfl) (by kernel_rfl) Tryz.call81 fun args h K hs => ?_
  match args, hs with
  | [a0, a1], hs => exact ⟨Nat.le_of_ble_eq_true (by kernel_rfl), Eq.mp (by kernel_rfl) hs⟩

def A.estafettelaw8_vals : An := (.seq .leaf (.seq .leaf (.seq (.seq .leaf (.block (.loop 524280 [3, 4] (.seq (.seq .leaf (.cond .leaf .leaf)) (.seq (.block .leaf) .leaf))))) (.seq .leaf .leaf))))
theorem S.estafettelaw8_vals (hI : SoundI Tryz.prog J I) (mI : MonoI I) : SoundF Tryz.prog J 82 (F.estafettelaw8_vals ⟨I, kk⟩) := by
  refine SoundF.of_walk (I := lkI []) (lkI_sound trivial) (lkI_mono _) mixed A.estafettelaw8_vals Tryz.func82 rfl (by kernel_rfl) (by kernel_rfl) Tryz.call82 fun args h K hs => ?_
  match args, hs with
  | [a0], hs => exact ⟨Nat.le_of_ble_eq_true (by kernel_rfl), Eq.mp (by kernel_rfl) hs⟩

def A.estafettelaw8_texts : An := (.seq .leaf (.seq (.seq .leaf (.cond (.seq .leaf .leaf) .leaf)) (.seq (.seq .leaf (.block (.loop 67106864 [5] (.seq (.seq .leaf (.cond .leaf .leaf)) (.seq (.block (.seq (.draw #[0, 0, 3, 7, 0, 0, 48, 112, 255] (.q 0 (.q 1 (.q 2 (.q 3 (.q 4 (.q 5 (.q 6 (.q 7 (.q 8 .done)))))))))) (.cond (.seq .leaf .leaf) .leaf))) .leaf))))) (.seq .leaf .leaf))))
theorem S.estafettelaw8_texts (hI : SoundI Tryz.prog J I) (mI : MonoI I) : SoundF Tryz.prog J 60 (F.estafettelaw8_texts ⟨I, kk⟩) := by
  refine SoundF.of_walk (I := lkI []) (lkI_sound trivial) (lkI_mono _) mixed A.estafettelaw8_texts Tryz.func60 rfl (by kernel_rfl) (by kernel_rfl) Tryz.call60 fun args h K hs => ?_
  match args, hs with
  | [a0, a1], hs => exact ⟨Nat.le_of_ble_eq_true (by kernel_rfl), Eq.mp (by kernel_rfl) hs⟩

def A.estafettelaw8_Same : An := (.seq .leaf (.seq (.seq (.draw #[0, 1, 3, 7, 15, 31, 63, 7, 135, 391, 903, 2047, 4095] (.q 0 (.q 1 (.q 2 (.q 3 (.q 4 (.q 5 (.q 6 (.q 7 (.q 8 (.q 9 (.q 10 (.q 11 (.q 12 .done)))))))))))))) (.cond (.seq .leaf .leaf) .leaf)) (.seq (.seq .leaf (.block (.seq .leaf (.cond (.seq .leaf .leaf) (.seq .leaf (.cond (.seq (.draw #[0, 1, 3, 7, 15, 0, 32, 96, 224, 511, 1023, 2047, 4095, 8191, 16383, 32767, 2047, 67583, 198655, 460799, 1048575, 2097151, 4194303, 8388607, 16777215, 33554431, 67108863, 134217727, 8388607, 276824063, 813694975, 1887436799, 4294967295, 8589934591, 17179869183] (.q 0 (.q 1 (.q 2 (.q 3 (.q 5 (.q 6 (.q 7 (.q 8 (.c 4 [8] (.c 9 [] (.q 10 (.q 11 (.q 12 (.q 13 (.q 14 (.q 16 (.q 17 (.q 18 (.q 19 (.c 15 [19] (.c 20 [] (.q 21 (.q 22 (.q 23 (.q 24 (.q 25 (.q 26 (.q 28 (.q 29 (.q 30 (.q 31 (.c 27 [31] (.q 32 (.q 33 (.q 34 .done)))))))))))))))))))))))))))))))))))) .leaf) .leaf)))))) (.seq (.draw #[0, 1, 3, 7, 0, 31, 63, 127, 255, 511, 1023, 2047, 127, 4223, 12415, 28799, 65535, 131071, 262143, 524287] (.q 0 (.q 1 (.q 2 (.q 3 (.q 4 (.c 5 [] (.q 6 (.q 7 (.q 8 (.q 9 (.q 10 (.q 12 (.q 13 (.q 14 (.q 15 (.c 11 [15] (.c 16 [] (.c 17 [] (.q 18 (.q 19 .done))))))))))))))))))))) .leaf))))
theorem S.estafettelaw8_Same (hI : SoundI Tryz.prog J I) (mI : MonoI I) : SoundF Tryz.prog J 52 (F.estafettelaw8_Same ⟨I, kk⟩) := by
  refine SoundF.of_walk (I := lkI [(28, F.estafettelaw8_sameTable ⟨I, kk⟩), (40, F.queue_Queue_Items ⟨I, kk⟩), (39, F.estafettelaw8_msgs ⟨I, kk⟩), (41, F.queue_Queue_Lost ⟨I, kk⟩), (42, F.queue_Queue_Next ⟨I, kk⟩), (81, F.estafettelaw8_sameTopic ⟨I, kk⟩), (47, F.topic_Topic_Fetch ⟨I, kk⟩), (82, F.estafettelaw8_vals ⟨I, kk⟩), (60, F.estafettelaw8_texts ⟨I, kk⟩)]) (lkI_sound ⟨S.estafettelaw8_sameTable hI mI, S.queue_Queue_Items hI mI, S.estafettelaw8_msgs hI mI, S.queue_Queue_Lost hI mI, S.queue_Queue_Next hI mI, S.estafettelaw8_sameTopic hI mI, S.topic_Topic_Fetch hI mI, S.estafettelaw8_vals hI mI, S.estafettelaw8_texts hI mI, trivial⟩) (lkI_mono _) mixed A.estafettelaw8_Same Tryz.func52 rfl (by kernel_rfl) (by kernel_rfl) Tryz.call52 fun args h K hs => ?_
  match args, hs with
  | [a0, a1], hs => exact ⟨Nat.le_of_ble_eq_true (by kernel_rfl), Eq.mp (by kernel_rfl) hs⟩

def A.slices_Equal_Sstring_string : An := (.seq .leaf (.seq (.seq .leaf (.cond (.seq .leaf .leaf) .leaf)) (.seq (.seq .leaf (.block (.loop 67100720 [13] (.seq .leaf (.seq (.cond .leaf .leaf) (.seq (.block (.seq .leaf (.seq (.draw #[0, 0, 3, 7, 0, 0, 48, 112, 255] (.q 0 (.q 1 (.q 2 (.q 3 (.q 4 (.q 5 (.q 6 (.q 7 (.q 8 .done)))))))))) (.cond (.seq .leaf .leaf) .leaf)))) .leaf)))))) (.seq .leaf .leaf))))
theorem S.slices_Equal_Sstring_string (hI : SoundI Tryz.prog J I) (mI : MonoI I) : SoundF Tryz.prog J 86 (F.slices_Equal_Sstring_string ⟨I, kk⟩) := by
  refine SoundF.of_walk (I := lkI []) (lkI_sound trivial) (lkI_mono _) mixed A.slices_Equal_Sstring_string Tryz.func86 rfl (by kernel_rfl) (by kernel_rfl) Tryz.call86 fun args h K hs => ?_
  match args, hs with
  | [a0, a1], hs => exact ⟨Nat.le_of_ble_eq_true (by kernel_rfl), Eq.mp (by kernel_rfl) hs⟩

def A.slices_IndexFunc_Sstring_string : An := (.seq .leaf (.seq (.seq .leaf (.block (.loop 524080 [8] (.seq .leaf (.seq (.cond .leaf .leaf) (.seq (.block (.seq .leaf (.seq .leaf (.cond (.seq .leaf .leaf) .leaf)))) .leaf)))))) (.seq .leaf .leaf)))
theorem S.slices_IndexFunc_Sstring_string (hI : SoundI Tryz.prog J I) (mI : MonoI I) : SoundF Tryz.prog J 99 (F.slices_IndexFunc_Sstring_string ⟨I, kk⟩) := by
  refine SoundF.of_walk (I := I) hI mI mixed A.slices_IndexFunc_Sstring_string Tryz.func99 rfl (by kernel_rfl) (by kernel_rfl) Tryz.call99 fun args h K hs => ?_
  match args, hs with
  | [a0, a1], hs => exact ⟨Nat.le_of_ble_eq_true (by kernel_rfl), Eq.mp (by kernel_rfl) hs⟩

def A.slices_ContainsFunc_Sstring_string : An := (.seq .leaf (.seq .leaf .leaf))
theorem S.slices_ContainsFunc_Sstring_string (hI : SoundI Tryz.prog J I) (mI : MonoI I) : SoundF Tryz.prog J 87 (F.slices_ContainsFunc_Sstring_string ⟨I, kk⟩) := by
  refine SoundF.of_walk (I := lkI [(99, F.slices_IndexFunc_Sstring_string ⟨I, kk⟩)]) (lkI_sound ⟨S.slices_IndexFunc_Sstring_string hI mI, trivial⟩) (lkI_mono _) mixed A.slices_ContainsFunc_Sstring_string Tryz.func87 rfl (by kernel_rfl) (by kernel_rfl) Tryz.call87 fun args h K hs => ?_
  match args, hs with
  | [a0, a1], hs => exact ⟨Nat.le_of_ble_eq_true (by kernel_rfl), Eq.mp (by kernel_rfl) hs⟩

def A.space_alike_1 : An := (.seq .leaf (.seq .leaf (.seq .leaf (.seq .leaf .leaf))))
theorem S.space_alike_1 (hI : SoundI Tryz.prog J I) (mI : MonoI I) : SoundF Tryz.prog J 98 (F.space_alike_1 ⟨I, kk⟩) := by
  refine SoundF.of_walk (I := lkI [(26, F.table_Table_Get ⟨I, kk⟩)]) (lkI_sound ⟨S.table_Table_Get hI mI, trivial⟩) (lkI_mono _) mixed A.space_alike_1 Tryz.func98 rfl (by kernel_rfl) (by kernel_rfl) Tryz.call98 fun args h K hs => ?_
  match args, hs with
  | [a0, a1, a2], hs => exact ⟨Nat.le_of_ble_eq_true (by kernel_rfl), Eq.mp (by kernel_rfl) hs⟩

def A.space_alike : An := (.seq .leaf (.seq (.seq (.draw #[0, 1, 0, 7, 15, 31] (.q 0 (.q 2 (.c 1 [2] (.c 3 [] (.c 4 [] (.q 5 .done))))))) (.cond (.seq .leaf .leaf) .leaf)) (.seq .leaf .leaf)))
theorem S.space_alike (hI : SoundI Tryz.prog J I) (mI : MonoI I) : SoundF Tryz.prog J 83 (F.space_alike ⟨I, kk⟩) := by
  refine SoundF.of_walk (I := lkI [(55, F.table_Table_Keys ⟨I, kk⟩), (86, F.slices_Equal_Sstring_string ⟨I, kk⟩), (87, F.slices_ContainsFunc_Sstring_string ⟨I, kk⟩)]) (lkI_sound ⟨S.table_Table_Keys hI mI, S.slices_Equal_Sstring_string hI mI, S.slices_ContainsFunc_Sstring_string hI mI, trivial⟩) (lkI_mono _) mixed A.space_alike Tryz.func83 rfl (by kernel_rfl) (by kernel_rfl) Tryz.call83 fun args h K hs => ?_
  match args, hs with
  | [a0, a1], hs => exact ⟨Nat.le_of_ble_eq_true (by kernel_rfl), Eq.mp (by kernel_rfl) hs⟩

def A.slices_Equal_Sapi_Msg_api_Msg : An := (.seq .leaf (.seq (.seq .leaf (.cond (.seq .leaf .leaf) .leaf)) (.seq (.seq .leaf (.block (.loop 67100720 [13] (.seq .leaf (.seq (.cond .leaf .leaf) (.seq (.block (.seq .leaf (.seq (.draw #[0, 0, 3, 7, 0, 0, 48, 112, 255] (.q 0 (.q 1 (.q 2 (.q 3 (.q 4 (.q 5 (.q 6 (.q 7 (.q 8 .done)))))))))) (.cond (.seq .leaf .leaf) .leaf)))) .leaf)))))) (.seq .leaf .leaf))))
theorem S.slices_Equal_Sapi_Msg_api_Msg (hI : SoundI Tryz.prog J I) (mI : MonoI I) : SoundF Tryz.prog J 84 (F.slices_Equal_Sapi_Msg_api_Msg ⟨I, kk⟩) := by
  refine SoundF.of_walk (I := lkI []) (lkI_sound trivial) (lkI_mono _) mixed A.slices_Equal_Sapi_Msg_api_Msg Tryz.func84 rfl (by kernel_rfl) (by kernel_rfl) Tryz.call84 fun args h K hs => ?_
  match args, hs with
  | [a0, a1], hs => exact ⟨Nat.le_of_ble_eq_true (by kernel_rfl), Eq.mp (by kernel_rfl) hs⟩

def A.slices_Index_Sstring_string : An := (.seq .leaf (.seq (.seq .leaf (.block (.loop 524080 [8] (.seq .leaf (.seq (.cond .leaf .leaf) (.seq (.block (.seq .leaf (.seq .leaf (.cond (.seq .leaf .leaf) .leaf)))) .leaf)))))) (.seq .leaf .leaf)))
theorem S.slices_Index_Sstring_string (hI : SoundI Tryz.prog J I) (mI : MonoI I) : SoundF Tryz.prog J 117 (F.slices_Index_Sstring_string ⟨I, kk⟩) := by
  refine SoundF.of_walk (I := lkI []) (lkI_sound trivial) (lkI_mono _) mixed A.slices_Index_Sstring_string Tryz.func117 rfl (by kernel_rfl) (by kernel_rfl) Tryz.call117 fun args h K hs => ?_
  match args, hs with
  | [a0, a1], hs => exact ⟨Nat.le_of_ble_eq_true (by kernel_rfl), Eq.mp (by kernel_rfl) hs⟩

def A.slices_Contains_Sstring_string : An := (.seq .leaf (.seq .leaf .leaf))
theorem S.slices_Contains_Sstring_string (hI : SoundI Tryz.prog J I) (mI : MonoI I) : SoundF Tryz.prog J 100 (F.slices_Contains_Sstring_string ⟨I, kk⟩) := by
  refine SoundF.of_walk (I := lkI [(117, F.slices_Index_Sstring_string ⟨I, kk⟩)]) (lkI_sound ⟨S.slices_Index_Sstring_string hI mI, trivial⟩) (lkI_mono _) mixed A.slices_Contains_Sstring_string Tryz.func100 rfl (by kernel_rfl) (by kernel_rfl) Tryz.call100 fun args h K hs => ?_
  match args, hs with
  | [a0, a1], hs => exact ⟨Nat.le_of_ble_eq_true (by kernel_rfl), Eq.mp (by kernel_rfl) hs⟩

def A.space_texts : An := (.seq .leaf (.seq .leaf (.seq (.block (.loop 1016 [3] (.seq (.seq .leaf (.cond .leaf .leaf)) (.block .leaf)))) (.seq .leaf .leaf))))
theorem S.space_texts (hI : SoundI Tryz.prog J I) (mI : MonoI I) : SoundF Tryz.prog J 88 (F.space_texts ⟨I, kk⟩) := by
  refine SoundF.of_walk (I := lkI [(56, F.topic_Topic_Groups ⟨I, kk⟩), (100, F.slices_Contains_Sstring_string ⟨I, kk⟩), (57, F.topic_Topic_Len ⟨I, kk⟩), (47, F.topic_Topic_Fetch ⟨I, kk⟩)]) (lkI_sound ⟨S.topic_Topic_Groups hI mI, S.slices_Contains_Sstring_string hI mI, S.topic_Topic_Len hI mI, S.topic_Topic_Fetch hI mI, trivial⟩) (lkI_mono _) mixed A.space_texts Tryz.func88 rfl (by kernel_rfl) (by kernel_rfl) Tryz.call88 fun args h K hs => ?_
  match args, hs with
  | [a0], hs => exact ⟨Nat.le_of_ble_eq_true (by kernel_rfl), Eq.mp (by kernel_rfl) hs⟩

def A.space_Space_Eq_1 : An := (.seq .leaf (.seq (.draw #[0, 1, 3, 7, 0, 31, 0, 64, 192, 448, 0, 2047, 4095, 8191] (.q 0 (.q 1 (.q 2 (.q 3 (.q 4 (.q 6 (.q 7 (.q 8 (.q 9 (.q 10 (.c 5 [6, 9] (.c 11 [] (.q 12 (.q 13 .done))))))))))))))) .leaf))
theorem S.space_Space_Eq_1 (hI : SoundI Tryz.prog J I) (mI : MonoI I) : SoundF Tryz.prog J 85 (F.space_Space_Eq_1 ⟨I, kk⟩) := by
  refine SoundF.of_walk (I := lkI [(46, F.topic_Topic_At ⟨I, kk⟩)]) (lkI_sound ⟨S.topic_Topic_At hI mI, trivial⟩) (lkI_mono _) mixed A.space_Space_Eq_1 Tryz.func85 rfl (by kernel_rfl) (by kernel_rfl) Tryz.call85 fun args h K hs => ?_
  match args, hs with
  | [a0, a1, a2], hs => exact ⟨Nat.le_of_ble_eq_true (by kernel_rfl), Eq.mp (by kernel_rfl) hs⟩

def A.space_Space_Eq : An := (.seq .leaf (.seq (.seq (.draw #[0, 1, 3, 7, 15, 31, 63, 127, 255, 511, 1023, 127, 2175, 6271, 14463, 32767, 65535] (.q 0 (.q 1 (.q 2 (.q 3 (.q 4 (.q 5 (.q 6 (.q 7 (.q 8 (.q 9 (.q 10 (.q 11 (.q 12 (.q 13 (.q 14 (.q 15 (.q 16 .done)))))))))))))))))) (.cond (.seq .leaf .leaf) .leaf)) (.seq (.seq .leaf (.block (.seq .leaf (.cond (.seq (.draw #[0, 1, 3, 7, 0, 16, 48, 112, 255, 511] (.q 0 (.q 1 (.q 2 (.q 3 (.q 4 (.q 5 (.q 6 (.q 7 (.c 8 [] (.q 9 .done))))))))))) .leaf) (.seq .leaf (.cond (.seq (.draw #[0, 1, 3, 7, 15, 0, 32, 96, 224, 511, 1023, 2047, 4095, 8191, 16383, 32767, 65535, 4095, 135167, 397311, 921599, 2097151, 4194303, 8388607, 16777215, 33554431, 67108863, 134217727, 268435455, 536870911, 33554431, 1107296255, 3254779903, 7549747199, 17179869183, 34359738367, 68719476735, 137438953471] (.q 0 (.q 1 (.q 2 (.q 3 (.q 5 (.q 6 (.q 7 (.q 8 (.c 4 [5, 8] (.c 9 [] (.q 10 (.q 11 (.q 12 (.q 13 (.q 14 (.q 15 (.q 17 (.q 18 (.q 19 (.q 20 (.c 16 [17, 20] (.c 21 [] (.c 22 [] (.q 23 (.q 24 (.q 25 (.q 26 (.q 27 (.q 28 (.q 30 (.q 31 (.q 32 (.q 33 (.c 29 [30, 33] (.c 34 [] (.c 35 [] (.q 36 (.q 37 .done))))))))))))))))))))))))))))))))))))))) .leaf) .leaf)))))) (.seq .leaf (.seq (.draw #[0, 1, 3, 7, 15, 0, 32, 96, 224, 511, 1023, 2047, 4095, 8191, 16383, 32767, 65535, 4095, 262143, 524287, 1048575, 2097151, 4194303, 8388607, 16777215, 33554431, 67108863, 4194303, 138412031, 406847487, 943718399, 2147483647, 4294967295, 8589934591, 17179869183] (.q 0 (.q 1 (.q 2 (.q 3 (.q 5 (.q 6 (.q 7 (.q 8 (.c 4 [5, 8] (.c 9 [] (.c 10 [] (.q 11 (.q 12 (.q 13 (.q 14 (.q 15 (.q 17 (.c 16 [] (.c 18 [] (.q 19 (.q 20 (.q 21 (.q 22 (.q 23 (.q 24 (.q 25 (.q 27 (.q 28 (.q 29 (.q 30 (.c 26 [27, 30] (.c 31 [] (.c 32 [] (.q 33 (.q 34 .done)))))))))))))))))))))))))))))))))))) .leaf)))))
theorem S.space_Space_Eq (hI : SoundI Tryz.prog J I) (mI : MonoI I) : SoundF Tryz.prog J 53 (F.space_Space_Eq ⟨I, kk⟩) := by
  refine SoundF.of_walk (I := lkI [(83, F.space_alike ⟨I, kk⟩), (42, F.queue_Queue_Next ⟨I, kk⟩), (40, F.queue_Queue_Items ⟨I, kk⟩), (84, F.slices_Equal_Sapi_Msg_api_Msg ⟨I, kk⟩), (41, F.queue_Queue_Lost ⟨I, kk⟩), (56, F.topic_Topic_Groups ⟨I, kk⟩), (86, F.slices_Equal_Sstring_string ⟨I, kk⟩), (87, F.slices_ContainsFunc_Sstring_string ⟨I, kk⟩), (88, F.space_texts ⟨I, kk⟩)]) (lkI_sound ⟨S.space_alike hI mI, S.queue_Queue_Next hI mI, S.queue_Queue_Items hI mI, S.slices_Equal_Sapi_Msg_api_Msg hI mI, S.queue_Queue_Lost hI mI, S.topic_Topic_Groups hI mI, S.slices_Equal_Sstring_string hI mI, S.slices_ContainsFunc_Sstring_string hI mI, S.space_texts hI mI, trivial⟩) (lkI_mono _) mixed A.space_Space_Eq Tryz.func53 rfl (by kernel_rfl) (by kernel_rfl) Tryz.call53 fun args h K hs => ?_
  match args, hs with
  | [a0, a1], hs => exact ⟨Nat.le_of_ble_eq_true (by kernel_rfl), Eq.mp (by kernel_rfl) hs⟩

def A.estafetteref8_Space_Eq : An := (.seq .leaf (.seq (.seq (.draw #[0, 1, 3, 7, 0, 16, 48, 112, 255, 511, 1023, 2047, 4095, 8191, 16383, 1023, 33791, 99327, 230399, 492543, 1048575, 2097151, 4194303, 8388607, 16777215, 33554431, 67108863, 134217727, 8388607, 276824063, 813694975, 1887436799, 4034920447, 8589934591, 17179869183, 34359738367, 68719476735, 137438953471, 274877906943, 549755813887, 1099511627775, 68719476735, 2267742732287, 6665789243391, 15461882265599, 33054068310015, 70368744177663, 140737488355327, 281474976710655, 562949953421311, 1125899906842623, 2251799813685247, 4503599627370495, 9007199254740991, 18014398509481983, 36028797018963967, 72057594037927935, 144115188075855871, 288230376151711743, 36028797018963967, 612489549322387455, 1765411053929234431, 4071254063142928383, 9223372036854775807, 18446744073709551615, 36893488147419103231] (.q 0 (.q 1 (.q 2 (.q 3 (.q 4 (.q 5 (.q 6 (.q 7 (.q 8 (.q 9 (.q 10 (.q 11 (.q 12 (.q 13 (.q 14 (.q 15 (.q 16 (.q 17 (.q 18 (.q 19 (.q 20 (.q 21 (.q 22 (.q 23 (.q 24 (.q 25 (.q 26 (.q 27 (.q 28 (.q 29 (.q 30 (.q 31 (.q 32 (.q 33 (.q 34 (.q 35 (.q 36 (.q 37 (.q 38 (.q 39 (.q 40 (.q 41 (.q 42 (.q 43 (.q 44 (.q 45 (.q 46 (.q 47 (.q 48 (.q 49 (.q 50 (.q 51 (.q 52 (.q 53 (.q 54 (.q 55 (.q 56 (.q 57 (.q 58 (.q 59 (.q 60 (.q 61 (.q 62 (.q 63 (.q 64 (.q 65 .done))))))))))))))))))))))))))))))))))))))))))))))))))))))))))))))))))) (.cond (.seq .leaf .leaf) .leaf)) (.seq (.seq .leaf (.block (.loop 316912631167591418895594946608 [5] (.seq (.seq .leaf (.cond .leaf .leaf)) (.seq (.block (.seq (.draw #[0, 1, 3, 7, 0, 31, 63, 0, 128, 384, 896, 0, 3968, 8064, 16383] (.q 0 (.q 1 (.q 2 (.q 3 (.q 4 (.q 5 (.q 6 (.q 7 (.q 8 (.q 9 (.q 10 (.q 11 (.q 12 (.q 13 (.q 14 .done)))))))))))))))) (.cond (.seq .leaf .leaf) .leaf))) .leaf))))) (.seq (.seq .leaf (.block (.loop 5316911666227013434557877866945577040 [6] (.seq (.seq .leaf (.cond .leaf .leaf)) (.seq (.block (.seq (.draw #[0, 1, 3, 7, 0, 31, 63, 0, 128, 384, 896, 0, 3968, 8064, 16383] (.q 0 (.q 1 (.q 2 (.q 3 (.q 4 (.q 5 (.q 6 (.q 7 (.q 8 (.q 9 (.q 10 (.q 11 (.q 12 (.q 13 (.q 14 .done)))))))))))))))) (.cond (.seq .leaf .leaf) .leaf))) .leaf))))) (.seq (.seq .leaf (.block (.loop 89202975477210509426479381475365204902543504 [7] (.seq (.seq .leaf (.cond .leaf .leaf)) (.seq (.block (.seq (.draw #[0, 1, 3, 7, 0, 31, 63, 0, 128, 384, 896, 0, 3968, 8064, 16383] (.q 0 (.q 1 (.q 2 (.q 3 (.q 4 (.q 5 (.q 6 (.q 7 (.q 8 (.q 9 (.q 10 (.q 11 (.q 12 (.q 13 (.q 14 .done)))))))))))))))) (.cond (.seq .leaf .leaf) .leaf))) .leaf))))) (.seq .leaf .leaf))))))
theorem S.estafetteref8_Space_Eq (hI : SoundI Tryz.prog J I) (mI : MonoI I) : SoundF Tryz.prog J 54 (F.estafetteref8_Space_Eq ⟨I, kk⟩) := by
  refine SoundF.of_walk (I := lkI []) (lkI_sound trivial) (lkI_mono _) mixed A.estafetteref8_Space_Eq Tryz.func54 rfl (by kernel_rfl) (by kernel_rfl) Tryz.call54 fun args h K hs => ?_
  match args, hs with
  | [a0, a1], hs => exact ⟨Nat.le_of_ble_eq_true (by kernel_rfl), Eq.mp (by kernel_rfl) hs⟩

def A.estafettelaw8_SpaceAll : An := (.seq .leaf (.seq .leaf (.seq (.seq .leaf (.cond (.seq .leaf .leaf) .leaf)) (.seq .leaf (.seq .leaf (.seq .leaf (.seq (.seq .leaf (.block (.loop 1427247692705959881058285969449494586629026048 [12, 13, 14] (.seq (.seq .leaf (.cond .leaf .leaf)) (.seq (.block (.seq .leaf (.seq (.draw #[0, 1, 0, 4, 12, 28, 63, 0, 128, 0, 512, 1536, 3584, 8064, 2047, 18431, 65535, 131071] (.q 0 (.q 1 (.q 2 (.q 3 (.q 4 (.q 5 (.q 6 (.q 7 (.q 8 (.q 9 (.q 10 (.q 11 (.q 12 (.q 13 (.q 14 (.c 15 [13] (.q 16 (.c 17 [] .done))))))))))))))))))) (.seq .leaf (.seq (.seq .leaf (.join 4642275147320176030871781376 [16] (.cond .leaf .leaf))) (.seq (.seq .leaf (.cond .leaf .leaf)) (.seq .leaf (.seq .leaf (.seq (.seq .leaf (.cond (.seq .leaf .leaf) .leaf)) (.seq .leaf (.cond .leaf .leaf))))))))))) .leaf))))) (.seq .leaf .leaf))))))))
theorem S.estafettelaw8_SpaceAll (hI : SoundI Tryz.prog J I) (mI : MonoI I) : SoundF Tryz.prog J 8 (F.estafettelaw8_SpaceAll ⟨I, kk⟩) := by
  refine SoundF.of_walk (I := lkI [(17, F.estafettelaw8_begun ⟨I, kk⟩), (48, F.space_New ⟨I, kk⟩), (19, F.estafetteref8_New ⟨I, kk⟩), (49, F.space_Space_Clone ⟨I, kk⟩), (21, F.estafetteref8_Space_Clone ⟨I, kk⟩), (50, F.space_Space_Do ⟨I, kk⟩), (51, F.estafetteref8_Space_Do ⟨I, kk⟩), (52, F.estafettelaw8_Same ⟨I, kk⟩), (53, F.space_Space_Eq ⟨I, kk⟩), (54, F.estafetteref8_Space_Eq ⟨I, kk⟩)]) (lkI_sound ⟨S.estafettelaw8_begun hI mI, S.space_New hI mI, S.estafetteref8_New hI mI, S.space_Space_Clone hI mI, S.estafetteref8_Space_Clone hI mI, S.space_Space_Do hI mI, S.estafetteref8_Space_Do hI mI, S.estafettelaw8_Same hI mI, S.space_Space_Eq hI mI, S.estafetteref8_Space_Eq hI mI, trivial⟩) (lkI_mono _) mixed A.estafettelaw8_SpaceAll Tryz.func8 rfl (by kernel_rfl) (by kernel_rfl) Tryz.call8 fun args h K hs => ?_
  match args, hs with
  | [a0, a1, a2, a3], hs => exact ⟨Nat.le_of_ble_eq_true (by kernel_rfl), Eq.mp (by kernel_rfl) hs⟩

def A.estafettelaw8_SpaceErrors : An := (.seq .leaf (.seq .leaf (.seq (.seq .leaf (.cond (.seq .leaf .leaf) .leaf)) (.seq .leaf (.seq .leaf (.seq (.seq .leaf (.block (.loop 18014398501093888 [9] (.seq (.seq .leaf (.cond .leaf .leaf)) (.seq (.block (.seq .leaf (.cond .leaf .leaf))) .leaf))))) (.seq .leaf (.seq (.seq .leaf (.cond (.seq .leaf .leaf) .leaf)) (.seq .leaf (.seq .leaf .leaf))))))))))
theorem S.estafettelaw8_SpaceErrors (hI : SoundI Tryz.prog J I) (mI : MonoI I) : SoundF Tryz.prog J 9 (F.estafettelaw8_SpaceErrors ⟨I, kk⟩) := by
  refine SoundF.of_walk (I := lkI [(17, F.estafettelaw8_begun ⟨I, kk⟩), (48, F.space_New ⟨I, kk⟩), (50, F.space_Space_Do ⟨I, kk⟩), (49, F.space_Space_Clone ⟨I, kk⟩), (53, F.space_Space_Eq ⟨I, kk⟩)]) (lkI_sound ⟨S.estafettelaw8_begun hI mI, S.space_New hI mI, S.space_Space_Do hI mI, S.space_Space_Clone hI mI, S.space_Space_Eq hI mI, trivial⟩) (lkI_mono _) mixed A.estafettelaw8_SpaceErrors Tryz.func9 rfl (by kernel_rfl) (by kernel_rfl) Tryz.call9 fun args h K hs => ?_
  match args, hs with
  | [a0, a1, a2], hs => exact ⟨Nat.le_of_ble_eq_true (by kernel_rfl), Eq.mp (by kernel_rfl) hs⟩

def A.estafettelaw8_TableLast : An := (.seq .leaf (.seq .leaf (.seq (.seq .leaf (.cond (.seq .leaf .leaf) .leaf)) (.seq .leaf (.seq .leaf (.seq (.seq .leaf (.block (.loop 37778931862957161580432 [7, 8, 9] (.seq (.seq .leaf (.cond .leaf .leaf)) (.seq (.block (.seq .leaf (.block (.seq .leaf (.cond (.seq (.seq .leaf (.cond (.seq .leaf .leaf) .leaf)) (.seq .leaf (.cond .leaf .leaf))) (.seq .leaf (.cond (.seq (.seq .leaf (.cond (.seq .leaf .leaf) .leaf)) (.seq .leaf (.cond .leaf .leaf))) .leaf))))))) .leaf))))) (.seq .leaf (.seq .leaf .leaf))))))))
theorem S.estafettelaw8_TableLast (hI : SoundI Tryz.prog J I) (mI : MonoI I) : SoundF Tryz.prog J 11 (F.estafettelaw8_TableLast ⟨I, kk⟩) := by
  refine SoundF.of_walk (I := lkI [(17, F.estafettelaw8_begun ⟨I, kk⟩), (18, F.table_New ⟨I, kk⟩), (22, F.table_Table_Put ⟨I, kk⟩), (24, F.table_Table_Del ⟨I, kk⟩), (26, F.table_Table_Get ⟨I, kk⟩)]) (lkI_sound ⟨S.estafettelaw8_begun hI mI, S.table_New hI mI, S.table_Table_Put hI mI, S.table_Table_Del hI mI, S.table_Table_Get hI mI, trivial⟩) (lkI_mono _) mixed A.estafettelaw8_TableLast Tryz.func11 rfl (by kernel_rfl) (by kernel_rfl) Tryz.call11 fun args h K hs => ?_
  match args, hs with
  | [a0, a1], hs => exact ⟨Nat.le_of_ble_eq_true (by kernel_rfl), Eq.mp (by kernel_rfl) hs⟩

def A.estafettelaw8_QueueAgain : An := (.seq .leaf (.seq .leaf (.seq (.seq .leaf (.cond (.seq .leaf .leaf) .leaf)) (.seq .leaf (.seq .leaf (.seq .leaf (.seq .leaf (.seq (.seq .leaf (.block (.loop 19342813113834062500339600 [7, 8] (.seq (.seq .leaf (.cond .leaf .leaf)) (.seq (.block (.seq .leaf (.seq .leaf (.seq (.seq .leaf (.cond (.seq .leaf .leaf) .leaf)) .leaf)))) .leaf))))) (.seq .leaf (.seq .leaf (.seq .leaf (.seq .leaf .leaf))))))))))))
theorem S.estafettelaw8_QueueAgain (hI : SoundI Tryz.prog J I) (mI : MonoI I) : SoundF Tryz.prog J 12 (F.estafettelaw8_QueueAgain ⟨I, kk⟩) := by
  refine SoundF.of_walk (I := lkI [(17, F.estafettelaw8_begun ⟨I, kk⟩), (29, F.queue_New ⟨I, kk⟩), (31, F.queue_Queue_Send ⟨I, kk⟩), (33, F.queue_Queue_Recv ⟨I, kk⟩), (41, F.queue_Queue_Lost ⟨I, kk⟩), (37, F.queue_Queue_Dead ⟨I, kk⟩), (40, F.queue_Queue_Items ⟨I, kk⟩)]) (lkI_sound ⟨S.estafettelaw8_begun hI mI, S.queue_New hI mI, S.queue_Queue_Send hI mI, S.queue_Queue_Recv hI mI, S.queue_Queue_Lost hI mI, S.queue_Queue_Dead hI mI, S.queue_Queue_Items hI mI, trivial⟩) (lkI_mono _) mixed A.estafettelaw8_QueueAgain Tryz.func12 rfl (by kernel_rfl) (by kernel_rfl) Tryz.call12 fun args h K hs => ?_
  match args, hs with
  | [a0, a1], hs => exact ⟨Nat.le_of_ble_eq_true (by kernel_rfl), Eq.mp (by kernel_rfl) hs⟩

def A.estafettelaw8_one : An := (.seq .leaf (.seq (.seq .leaf (.cond (.seq .leaf .leaf) .leaf)) (.seq .leaf .leaf)))
theorem S.estafettelaw8_one (hI : SoundI Tryz.prog J I) (mI : MonoI I) : SoundF Tryz.prog J 59 (F.estafettelaw8_one ⟨I, kk⟩) := by
  refine SoundF.of_walk (I := lkI []) (lkI_sound trivial) (lkI_mono _) mixed A.estafettelaw8_one Tryz.func59 rfl (by kernel_rfl) (by kernel_rfl) Tryz.call59 fun args h K hs => ?_
  match args, hs with
  | [a0], hs => exact ⟨Nat.le_of_ble_eq_true (by kernel_rfl), Eq.mp (by kernel_rfl) hs⟩

def A.estafettelaw8_QueueToken : An := (.seq .leaf (.seq .leaf (.seq (.seq .leaf (.cond (.seq .leaf .leaf) .leaf)) (.seq .leaf (.seq .leaf (.seq .leaf (.seq .leaf (.seq (.seq .leaf (.cond (.seq .leaf .leaf) .leaf)) (.seq .leaf (.seq .leaf (.seq .leaf .leaf)))))))))))
theorem S.estafettelaw8_QueueToken (hI : SoundI Tryz.prog J I) (mI : MonoI I) : SoundF Tryz.prog J 13 (F.estafettelaw8_QueueToken ⟨I, kk⟩) := by
  refine SoundF.of_walk (I := lkI [(17, F.estafettelaw8_begun ⟨I, kk⟩), (29, F.queue_New ⟨I, kk⟩), (31, F.queue_Queue_Send ⟨I, kk⟩), (33, F.queue_Queue_Recv ⟨I, kk⟩), (35, F.queue_Queue_Ack ⟨I, kk⟩), (40, F.queue_Queue_Items ⟨I, kk⟩), (59, F.estafettelaw8_one ⟨I, kk⟩)]) (lkI_sound ⟨S.estafettelaw8_begun hI mI, S.queue_New hI mI, S.queue_Queue_Send hI mI, S.queue_Queue_Recv hI mI, S.queue_Queue_Ack hI mI, S.queue_Queue_Items hI mI, S.estafettelaw8_one hI mI, trivial⟩) (lkI_mono _) mixed A.estafettelaw8_QueueToken Tryz.func13 rfl (by kernel_rfl) (by kernel_rfl) Tryz.call13 fun args h K hs => ?_
  match args, hs with
  | [a0, a1, a2], hs => exact ⟨Nat.le_of_ble_eq_true (by kernel_rfl), Eq.mp (by kernel_rfl) hs⟩

def A.estafettelaw8_TopicFetch : An := (.seq .leaf (.seq .leaf (.seq (.seq .leaf (.cond (.seq .leaf .leaf) .leaf)) (.seq .leaf (.seq .leaf (.seq (.seq .leaf (.block (.loop 35184363703872 [9] (.seq (.seq .leaf (.cond .leaf .leaf)) (.seq (.block (.seq .leaf (.seq .leaf (.cond (.seq .leaf .leaf) .leaf)))) .leaf))))) (.seq .leaf (.seq .leaf (.seq (.seq .leaf (.cond (.seq .leaf .leaf) .leaf)) (.seq (.seq .leaf (.join 2 [1] (.cond .leaf .leaf))) (.seq .leaf (.seq .leaf (.seq (.draw #[0, 0, 3, 0, 0, 0, 0, 96, 248, 511, 1023, 2047, 4095, 2047, 10239, 32767, 65535, 131071] (.q 0 (.q 1 (.q 3 (.q 4 (.q 5 (.q 6 (.q 7 (.q 8 (.c 2 [8] (.c 9 [] (.q 10 (.q 11 (.q 13 (.q 14 (.c 12 [] (.q 15 (.q 16 (.q 17 .done))))))))))))))))))) .leaf)))))))))))))
theorem S.estafettelaw8_TopicFetch (hI : SoundI Tryz.prog J I) (mI : MonoI I) : SoundF Tryz.prog J 14 (F.estafettelaw8_TopicFetch ⟨I, kk⟩) := by
  refine SoundF.of_walk (I := lkI [(17, F.estafettelaw8_begun ⟨I, kk⟩), (43, F.topic_New ⟨I, kk⟩), (44, F.topic_Topic_Pub ⟨I, kk⟩), (45, F.topic_Topic_Seek ⟨I, kk⟩), (47, F.topic_Topic_Fetch ⟨I, kk⟩), (60, F.estafettelaw8_texts ⟨I, kk⟩), (57, F.topic_Topic_Len ⟨I, kk⟩)]) (lkI_sound ⟨S.estafettelaw8_begun hI mI, S.topic_New hI mI, S.topic_Topic_Pub hI mI, S.topic_Topic_Seek hI mI, S.topic_Topic_Fetch hI mI, S.estafettelaw8_texts hI mI, S.topic_Topic_Len hI mI, trivial⟩) (lkI_mono _) mixed A.estafettelaw8_TopicFetch Tryz.func14 rfl (by kernel_rfl) (by kernel_rfl) Tryz.call14 fun args h K hs => ?_
  match args, hs with
  | [a0, a1, a2], hs => exact ⟨Nat.le_of_ble_eq_true (by kernel_rfl), Eq.mp (by kernel_rfl) hs⟩

def A.estafettelaw8_SpaceKinds : An := (.seq .leaf (.seq .leaf (.seq (.seq .leaf (.cond (.seq .leaf .leaf) .leaf)) (.seq .leaf (.seq .leaf (.seq (.seq .leaf (.cond (.seq .leaf .leaf) .leaf)) (.seq .leaf (.seq (.join 72057593501057152 [7] (.block (.seq .leaf (.cond .leaf (.seq .leaf (.cond .leaf (.seq .leaf (.cond .leaf .leaf)))))))) (.seq .leaf (.seq .leaf (.seq .leaf .leaf)))))))))))
theorem S.estafettelaw8_SpaceKinds (hI : SoundI Tryz.prog J I) (mI : MonoI I) : SoundF Tryz.prog J 15 (F.estafettelaw8_SpaceKinds ⟨I, kk⟩) := by
  refine SoundF.of_walk (I := lkI [(17, F.estafettelaw8_begun ⟨I, kk⟩), (48, F.space_New ⟨I, kk⟩), (49, F.space_Space_Clone ⟨I, kk⟩), (50, F.space_Space_Do ⟨I, kk⟩), (53, F.space_Space_Eq ⟨I, kk⟩)]) (lkI_sound ⟨S.estafettelaw8_begun hI mI, S.space_New hI mI, S.space_Space_Clone hI mI, S.space_Space_Do hI mI, S.space_Space_Eq hI mI, trivial⟩) (lkI_mono _) mixed A.estafettelaw8_SpaceKinds Tryz.func15 rfl (by kernel_rfl) (by kernel_rfl) Tryz.call15 fun args h K hs => ?_
  match args, hs with
  | [a0, a1], hs => exact ⟨Nat.le_of_ble_eq_true (by kernel_rfl), Eq.mp (by kernel_rfl) hs⟩

def A.estafettelaw8_SpaceFetch : An := (.seq .leaf (.seq .leaf (.seq (.seq .leaf (.cond (.seq .leaf .leaf) .leaf)) (.seq .leaf (.seq .leaf (.seq .leaf (.seq .leaf (.seq (.seq .leaf (.block (.loop 75557863725914319241104 [7, 8, 9] (.seq (.seq .leaf (.cond .leaf .leaf)) (.seq (.block (.seq (.draw #[0, 0, 3, 7, 0, 0, 48, 112, 240, 496, 1023, 2047] (.q 0 (.q 1 (.q 2 (.q 3 (.q 4 (.q 5 (.q 6 (.q 7 (.q 8 (.q 9 (.q 10 (.q 11 .done))))))))))))) (.seq (.seq .leaf (.seq .leaf (.cond (.seq .leaf .leaf) .leaf))) (.seq .leaf (.seq .leaf (.cond (.seq .leaf (.seq .leaf (.cond .leaf .leaf))) .leaf)))))) .leaf))))) (.seq .leaf (.seq .leaf .leaf))))))))))
theorem S.estafettelaw8_SpaceFetch (hI : SoundI Tryz.prog J I) (mI : MonoI I) : SoundF Tryz.prog J 16 (F.estafettelaw8_SpaceFetch ⟨I, kk⟩) := by
  refine SoundF.of_walk (I := lkI [(17, F.estafettelaw8_begun ⟨I, kk⟩), (48, F.space_New ⟨I, kk⟩), (50, F.space_Space_Do ⟨I, kk⟩), (61, F.estafetteref8_Dec ⟨I, kk⟩)]) (lkI_sound ⟨S.estafettelaw8_begun hI mI, S.space_New hI mI, S.space_Space_Do hI mI, S.estafetteref8_Dec hI mI, trivial⟩) (lkI_mono _) mixed A.estafettelaw8_SpaceFetch Tryz.func16 rfl (by kernel_rfl) (by kernel_rfl) Tryz.call16 fun args h K hs => ?_
  match args, hs with
  | [a0, a1], hs => exact ⟨Nat.le_of_ble_eq_true (by kernel_rfl), Eq.mp (by kernel_rfl) hs⟩

end Go.Abs

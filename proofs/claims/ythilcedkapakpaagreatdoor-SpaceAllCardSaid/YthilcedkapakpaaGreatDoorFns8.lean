/- Shallow forms of functions, printed by tools/gen.lean. -/
import Derived.Test.YthilcedkapakpaaGreatDoorLib0
set_option linter.unusedSimpArgs false
set_option maxRecDepth 20000
set_option linter.unusedVariables false
namespace Go.Abs
open Go

/-- estafette/table.New -/
def F.table_New (E : FE) : Spec := fun args h K => match args with
| [] =>
kP (makeMapD true none h) fun v1_0 h =>
kv (buildD (.struct [(.map none)] [(0, 1)]) [(0, v1_0)]) fun v2_1 =>
kP (newD none v2_1 h) fun v3_2 h =>
K v3_2 h
| _ => False

/-- estafette/estafetteref8.New -/
def F.estafetteref8_New (E : FE) : Spec := fun args h K => match args with
| [a0, a1] =>
kv (aMinMax false [a1, (.int .i64 9)]) fun v7_0 =>
kv (aMinMax true [(.int .i64 1), v7_0]) fun v8_1 =>
kv (buildD (.struct [(.string ⟨#[]⟩), (.int .i64 0), (.slice none 0 0), (.int .i64 0), (.slice none 0 0), (.slice none 0 0), (.int .i64 0)] [(0, 1), (1, 1), (2, 1), (3, 1), (4, 1), (5, 1), (6, 1)]) [(1, a0), (3, v8_1), (6, (.int .i64 1))]) fun v9_2 =>
kP (newD none v9_2 h) fun v10_3 h =>
K v10_3 h
| _ => False

/-- maps.Clone[map[string]string,string,string] -/
def F.maps_Clone_map_string_string_string_string (E : FE) : Spec := fun args h K => match args with
| [a0] =>
kv (binD .map .eql true a0 (.map none) h) fun v4_0 =>
ifV v4_0 (
K (.map none) h) (
iface 90 a0 h fun v6_1 h =>
cl (F.maps_clone E) [v6_1] h fun v7_2 h =>
kv (assertD true v7_2 90 false) fun v8_3 =>
K v8_3 h)
| _ => False

/-- (*estafette/table.Table).Clone -/
def F.table_Table_Clone (E : FE) : Spec := fun args h K => match args with
| [a0] =>
kv (binD (.ptr true) .eql true a0 (.pointer none) h) fun v4_0 =>
ifV v4_0 (
K (.pointer none) h) (
kv (aNil a0) fun v6_1 =>
kv (fieldAddrD (some 0) v6_1) fun v7_2 =>
kv (ldD .one v7_2 h) fun v8_3 =>
cl (F.maps_Clone_map_string_string_string_string E) [v8_3] h fun v9_4 h =>
kv (buildD (.struct [(.map none)] [(0, 1)]) [(0, v9_4)]) fun v10_5 =>
kP (newD none v10_5 h) fun v11_6 h =>
K v11_6 h)
| _ => False

/-- (*estafette/estafetteref8.Space).Clone -/
def F.estafetteref8_Space_Clone (E : FE) : Spec := fun args h K => match args with
| [a0] =>
kv (aNil a0) fun v5_0 =>
kv (ldD (.agg 7) v5_0 h) fun v6_1 =>
kP (newD none (.agg #[(.string ⟨#[]⟩), (.int .i64 0), (.slice none 0 0), (.int .i64 0), (.slice none 0 0), (.slice none 0 0), (.int .i64 0)]) h) fun v3_2 h =>
kH (stD (some 7) v3_2 v6_1 h) fun _ h =>
kv (aNil a0) fun v8_3 =>
kv (fieldAddrD (some 2) v8_3) fun v9_4 =>
kv (ldD .one v9_4 h) fun v10_5 =>
kv (aNil a0) fun v13_6 =>
kv (fieldAddrD (some 4) v13_6) fun v14_7 =>
kv (ldD .one v14_7 h) fun v15_8 =>
kv (aNil a0) fun v18_9 =>
kv (fieldAddrD (some 5) v18_9) fun v19_10 =>
kv (ldD .one v19_10 h) fun v20_11 =>
kP (appendD (some (3, 40, [(.string ⟨#[]⟩), (.string ⟨#[]⟩), (.int .i64 0)])) (.slice none 0 0) v10_5 h) fun v11_12 h =>
ldD .one v14_7 h = some v15_8 ∧
ldD .one v19_10 h = some v20_11 ∧
kP (appendD (some (4, 40, [(.int .i64 0), (.string ⟨#[]⟩), (.int .i64 0), (.int .i64 0)])) (.slice none 0 0) v15_8 h) fun v16_13 h =>
ldD .one v19_10 h = some v20_11 ∧
kP (appendD (some (4, 40, [(.int .i64 0), (.string ⟨#[]⟩), (.int .i64 0), (.int .i64 0)])) (.slice none 0 0) v20_11 h) fun v21_14 h =>
kv (fieldAddrD (some 2) v3_2) fun v22_15 =>
kH (stD (some 1) v22_15 v11_12 h) fun _ h =>
kv (fieldAddrD (some 4) v3_2) fun v23_16 =>
kH (stD (some 1) v23_16 v16_13 h) fun _ h =>
kv (fieldAddrD (some 5) v3_2) fun v24_17 =>
kH (stD (some 1) v24_17 v21_14 h) fun _ h =>
K v3_2 h
| _ => False

/-- (*estafette/table.Table).Put -/
def F.table_Table_Put (E : FE) : Spec := fun args h K => match args with
| [a0, a1, a2] =>
kv (binD (.ptr true) .eql true a0 (.pointer none) h) fun v10_0 =>
ifV v10_0 (
K (.bool false) h) (
kv (aNil a0) fun v13_1 =>
kv (fieldAddrD (some 0) v13_1) fun v14_2 =>
kv (ldD .one v14_2 h) fun v15_3 =>
kv (lookupD (some (.string, (some (.string ⟨#[]⟩)))) v15_3 a1 true h) fun v17_4 =>
kv (aExtract v17_4 0) fun v18_5 =>
kv (aExtract v17_4 1) fun v19_6 =>
kv (aNil a0) fun v21_7 =>
kv (fieldAddrD (some 0) v21_7) fun v22_8 =>
kv (ldD .one v22_8 h) fun v23_9 =>
kH (mapUpdateD (some (.string, (some (.string ⟨#[]⟩)))) v23_9 a1 a2 h) fun _ h =>
kv (aUn .not v19_6) fun v27_10 =>
K v27_10 h)
| _ => False

/-- (*estafette/estafetteref8.Space).at -/
def F.estafetteref8_Space_at (E : FE) : Spec := fun args h K => match args with
| [a0, a1] =>
∃ (Inv0 : Nat → List V → AHeap → Prop) (n0 : Nat), Inv0 n0 [(.int .i64 0)] h ∧ ∀ (n0 : Nat) (e0 : Nat → V) (h : AHeap), Inv0 n0 [(e0 6)] h →
kv (aNil a0) fun v9_1 =>
kv (fieldAddrD (some 2) v9_1) fun v10_2 =>
kv (ldD .one v10_2 h) fun v11_3 =>
kv (lenD .slice v11_3 h) fun v12_4 =>
kv (binD .bad .lss false (e0 6) v12_4 h) fun v13_5 =>
kv (gdV v13_5 true (some a0)) fun v15_6 =>
kv (gdV v13_5 true (aNil v15_6)) fun v16_7 =>
kv (gdV v13_5 true (fieldAddrD (some 2) v16_7)) fun v17_8 =>
kv (gdV v13_5 true (ldD .one v17_8 h)) fun v18_9 =>
kv (gdV v13_5 true (some (e0 6))) fun v19_10 =>
kv (gdV v13_5 true (indexAddrD (.slice 3) v18_9 v19_10)) fun v20_11 =>
kv (gdV v13_5 true (fieldAddrD (some 0) v20_11)) fun v21_12 =>
kv (gdV v13_5 true (ldD .one v21_12 h)) fun v22_13 =>
kv (gdV v13_5 true (some a1)) fun v23_14 =>
kv (gdV v13_5 true (binD .bad .lss false v22_13 v23_14 h)) fun v24_15 =>
kv (pickV v13_5 v24_15 (.bool false)) fun v25_16 =>
ifV v25_16 (
kv (binD .bad .add true (e0 6) (.int .i64 1) h) fun v27_17 =>
∃ m, m < n0 ∧ Inv0 m [v27_17] h) (
kv (aNil a0) fun v31_18 =>
kv (fieldAddrD (some 2) v31_18) fun v32_19 =>
kv (ldD .one v32_19 h) fun v33_20 =>
kv (lenD .slice v33_20 h) fun v34_21 =>
kv (binD .bad .lss false (e0 6) v34_21 h) fun v35_22 =>
kv (gdV v35_22 true (some a0)) fun v37_23 =>
kv (gdV v35_22 true (aNil v37_23)) fun v38_24 =>
kv (gdV v35_22 true (fieldAddrD (some 2) v38_24)) fun v39_25 =>
kv (gdV v35_22 true (ldD .one v39_25 h)) fun v40_26 =>
kv (gdV v35_22 true (some (e0 6))) fun v41_27 =>
kv (gdV v35_22 true (indexAddrD (.slice 3) v40_26 v41_27)) fun v42_28 =>
kv (gdV v35_22 true (fieldAddrD (some 0) v42_28)) fun v43_29 =>
kv (gdV v35_22 true (ldD .one v43_29 h)) fun v44_30 =>
kv (gdV v35_22 true (some a1)) fun v45_31 =>
kv (gdV v35_22 true (binD .bad .eql false v44_30 v45_31 h)) fun v46_32 =>
kv (pickV v35_22 v46_32 (.bool false)) fun v47_33 =>
K (.tuple #[(e0 6), v47_33]) h)
| _ => False

/-- (*estafette/estafetteref8.Space).put -/
def F.estafetteref8_Space_put (E : FE) : Spec := fun args h K => match args with
| [a0, a1] =>
kP (newD none a1 h) fun v3_0 h =>
kv (fieldAddrD (some 0) v3_0) fun v8_1 =>
kv (ldD .one v8_1 h) fun v9_2 =>
cl (F.estafetteref8_Space_at E) [a0, v9_2] h fun v10_3 h =>
kv (aExtract v10_3 0) fun v11_4 =>
kv (aExtract v10_3 1) fun v12_5 =>
ifV v12_5 (
kv (aNil a0) fun v15_6 =>
kv (fieldAddrD (some 2) v15_6) fun v16_7 =>
kv (ldD .one v16_7 h) fun v17_8 =>
kv (ldD (.agg 3) v3_0 h) fun v19_9 =>
kv (indexAddrD (.slice 3) v17_8 v11_4) fun v20_10 =>
kH (stD (some 3) v20_10 v19_9 h) fun _ h =>
K (.tuple #[]) h) (
kv (aNil a0) fun v23_11 =>
kv (fieldAddrD (some 2) v23_11) fun v24_12 =>
kv (ldD .one v24_12 h) fun v25_13 =>
kv (sliceD (.slice 3) v25_13 none (some v11_4) none h) fun v27_14 =>
kv (ldD (.agg 3) v3_0 h) fun v29_15 =>
kv (aNil a0) fun v33_16 =>
kv (fieldAddrD (some 2) v33_16) fun v34_17 =>
kv (ldD .one v34_17 h) fun v35_18 =>
kv (sliceD (.slice 3) v35_18 (some v11_4) none none h) fun v37_19 =>
(kP (appendD (some (3, 40, [(.string ⟨#[]⟩), (.string ⟨#[]⟩), (.int .i64 0)])) (.slice none 0 0) v27_14 h) fun v28_20 h =>
ldD (.agg 3) v3_0 h = some v29_15 ∧
ldD .one v34_17 h = some v35_18 ∧
sliceD (.slice 3) v35_18 (some v11_4) none none h = some v37_19 ∧
kP (buildSliceD (some (3, [(.string ⟨#[]⟩), (.string ⟨#[]⟩), (.int .i64 0)])) 1 [(0, v29_15)] h) fun v30_21 h =>
ldD .one v24_12 h = some v25_13 ∧
sliceD (.slice 3) v25_13 none (some v11_4) none h = some v27_14 ∧
ldD .one v34_17 h = some v35_18 ∧
sliceD (.slice 3) v35_18 (some v11_4) none none h = some v37_19 ∧
kP (appendD (some (3, 40, [(.string ⟨#[]⟩), (.string ⟨#[]⟩), (.int .i64 0)])) v28_20 v30_21 h) fun v31_22 h =>
ldD .one v34_17 h = some v35_18 ∧
sliceD (.slice 3) v35_18 (some v11_4) none none h = some v37_19 ∧
kP (appendD (some (3, 40, [(.string ⟨#[]⟩), (.string ⟨#[]⟩), (.int .i64 0)])) v31_22 v37_19 h) fun v38_23 h =>
kv (aNil a0) fun v39_24 =>
kv (fieldAddrD (some 2) v39_24) fun v40_25 =>
kH (stD (some 1) v40_25 v38_23 h) fun _ h =>
K (.tuple #[]) h) ∧
(kP (buildSliceD (some (3, [(.string ⟨#[]⟩), (.string ⟨#[]⟩), (.int .i64 0)])) 1 [(0, v29_15)] h) fun v30_26 h =>
ldD .one v24_12 h = some v25_13 ∧
sliceD (.slice 3) v25_13 none (some v11_4) none h = some v27_14 ∧
ldD .one v34_17 h = some v35_18 ∧
sliceD (.slice 3) v35_18 (some v11_4) none none h = some v37_19 ∧
kP (appendD (some (3, 40, [(.string ⟨#[]⟩), (.string ⟨#[]⟩), (.int .i64 0)])) (.slice none 0 0) v27_14 h) fun v28_27 h =>
ldD (.agg 3) v3_0 h = some v29_15 ∧
ldD .one v34_17 h = some v35_18 ∧
sliceD (.slice 3) v35_18 (some v11_4) none none h = some v37_19 ∧
kP (appendD (some (3, 40, [(.string ⟨#[]⟩), (.string ⟨#[]⟩), (.int .i64 0)])) v28_27 v30_26 h) fun v31_28 h =>
ldD .one v34_17 h = some v35_18 ∧
sliceD (.slice 3) v35_18 (some v11_4) none none h = some v37_19 ∧
kP (appendD (some (3, 40, [(.string ⟨#[]⟩), (.string ⟨#[]⟩), (.int .i64 0)])) v31_28 v37_19 h) fun v38_29 h =>
kv (aNil a0) fun v39_30 =>
kv (fieldAddrD (some 2) v39_30) fun v40_31 =>
kH (stD (some 1) v40_31 v38_29 h) fun _ h =>
K (.tuple #[]) h))
| _ => False

/-- (*estafette/estafetteref8.Space).Put -/
def F.estafetteref8_Space_Put (E : FE) : Spec := fun args h K => match args with
| [a0, a1, a2] =>
cl (F.estafetteref8_Space_at E) [a0, a1] h fun v12_0 h =>
kv (aExtract v12_0 0) fun v13_1 =>
kv (aExtract v12_0 1) fun v14_2 =>
kv (buildD (.struct [(.string ⟨#[]⟩), (.string ⟨#[]⟩), (.int .i64 0)] [(0, 1), (1, 1), (2, 1)]) [(0, a1), (1, a2)]) fun v18_3 =>
cl (F.estafetteref8_Space_put E) [a0, v18_3] h fun v19_4 h =>
kv (aUn .not v14_2) fun v21_5 =>
K v21_5 h
| _ => False

/-- (*estafette/table.Table).Get -/
def F.table_Table_Get (E : FE) : Spec := fun args h K => match args with
| [a0, a1] =>
kv (binD (.ptr true) .eql true a0 (.pointer none) h) fun v9_0 =>
ifV v9_0 (
K (.tuple #[(.string ⟨#[]⟩), (.bool false)]) h) (
kv (aNil a0) fun v12_1 =>
kv (fieldAddrD (some 0) v12_1) fun v13_2 =>
kv (ldD .one v13_2 h) fun v14_3 =>
kv (lookupD (some (.string, (some (.string ⟨#[]⟩)))) v14_3 a1 true h) fun v16_4 =>
kv (aExtract v16_4 0) fun v17_5 =>
kv (aExtract v16_4 1) fun v18_6 =>
K (.tuple #[v17_5, v18_6]) h)
| _ => False

/-- (*estafette/table.Table).Del -/
def F.table_Table_Del (E : FE) : Spec := fun args h K => match args with
| [a0, a1] =>
cl (F.table_Table_Get E) [a0, a1] h fun v10_0 h =>
kv (aExtract v10_0 0) fun v11_1 =>
kv (aExtract v10_0 1) fun v12_2 =>
kv (aUn .not v12_2) fun v14_3 =>
ifV v14_3 (
K (.bool false) h) (
kv (aNil a0) fun v16_4 =>
kv (fieldAddrD (some 0) v16_4) fun v17_5 =>
kv (ldD .one v17_5 h) fun v18_6 =>
kH (deleteD (some (.string, (some (.string ⟨#[]⟩)))) v18_6 a1 h) fun _ h =>
K (.bool true) h)
| _ => False

/-- (*estafette/estafetteref8.Space).Del -/
def F.estafetteref8_Space_Del (E : FE) : Spec := fun args h K => match args with
| [a0, a1] =>
cl (F.estafetteref8_Space_at E) [a0, a1] h fun v10_0 h =>
kv (aExtract v10_0 0) fun v11_1 =>
kv (aExtract v10_0 1) fun v12_2 =>
ifV v12_2 (
kv (aNil a0) fun v16_3 =>
kv (fieldAddrD (some 2) v16_3) fun v17_4 =>
kv (ldD .one v17_4 h) fun v18_5 =>
kv (sliceD (.slice 3) v18_5 none (some v11_1) none h) fun v20_6 =>
kv (aNil a0) fun v23_7 =>
kv (fieldAddrD (some 2) v23_7) fun v24_8 =>
kv (ldD .one v24_8 h) fun v25_9 =>
kv (binD .bad .add true v11_1 (.int .i64 1) h) fun v27_10 =>
kv (sliceD (.slice 3) v25_9 (some v27_10) none none h) fun v28_11 =>
kP (appendD (some (3, 40, [(.string ⟨#[]⟩), (.string ⟨#[]⟩), (.int .i64 0)])) (.slice none 0 0) v20_6 h) fun v21_12 h =>
ldD .one v24_8 h = some v25_9 ∧
sliceD (.slice 3) v25_9 (some v27_10) none none h = some v28_11 ∧
kP (appendD (some (3, 40, [(.string ⟨#[]⟩), (.string ⟨#[]⟩), (.int .i64 0)])) v21_12 v28_11 h) fun v29_13 h =>
kv (aNil a0) fun v30_14 =>
kv (fieldAddrD (some 2) v30_14) fun v31_15 =>
kH (stD (some 1) v31_15 v29_13 h) fun _ h =>
K v12_2 h) (
K v12_2 h)
| _ => False

/-- (*estafette/estafetteref8.Space).Get -/
def F.estafetteref8_Space_Get (E : FE) : Spec := fun args h K => match args with
| [a0, a1] =>
cl (F.estafetteref8_Space_at E) [a0, a1] h fun v11_0 h =>
kv (aExtract v11_0 0) fun v12_1 =>
kv (aExtract v11_0 1) fun v13_2 =>
kv (aUn .not v13_2) fun v15_3 =>
ifV v15_3 (
K (.tuple #[(.string ⟨#[]⟩), (.bool false)]) h) (
kv (aNil a0) fun v17_4 =>
kv (fieldAddrD (some 2) v17_4) fun v18_5 =>
kv (ldD .one v18_5 h) fun v19_6 =>
kv (indexAddrD (.slice 3) v19_6 v12_1) fun v21_7 =>
kv (fieldAddrD (some 1) v21_7) fun v22_8 =>
kv (ldD .one v22_8 h) fun v23_9 =>
K (.tuple #[v23_9, (.bool true)]) h)
| _ => False

/-- maps.Keys[map[string]string,string,string] -/
def F.maps_Keys_map_string_string_string_string (E : FE) : Spec := fun args h K => match args with
| [a0] =>
kP (newD none a0 h) fun v1_0 h =>
K (.func (.func (E.k 3)) #[] #[v1_0]) h
| _ => False

/-- (*estafette/table.Table).Keys -/
def F.table_Table_Keys (E : FE) : Spec := fun args h K => match args with
| [a0] =>
kv (binD (.ptr true) .eql true a0 (.pointer none) h) fun v4_0 =>
ifV v4_0 (
K (.slice none 0 0) h) (
kv (aNil a0) fun v6_1 =>
kv (fieldAddrD (some 0) v6_1) fun v7_2 =>
kv (ldD .one v7_2 h) fun v8_3 =>
cl (F.maps_Keys_map_string_string_string_string E) [v8_3] h fun v9_4 h =>
cl (F.slices_Sorted_string E) [v9_4] h fun v10_5 h =>
K v10_5 h)
| _ => False

/-- estafette/estafettelaw8.sameTable -/
def F.estafettelaw8_sameTable (E : FE) : Spec := fun args h K => match args with
| [a0, a1] =>
cl (F.table_Table_Keys E) [a0] h fun v10_0 h =>
kv (lenD .slice v10_0 h) fun v12_1 =>
kv (aNil a1) fun v14_2 =>
kv (fieldAddrD (some 2) v14_2) fun v15_3 =>
kv (ldD .one v15_3 h) fun v16_4 =>
kv (lenD .slice v16_4 h) fun v17_5 =>
kv (binD .bad .neq false v12_1 v17_5 h) fun v18_6 =>
ifV v18_6 (
K (.bool false) h) (
∃ (Inv7 : Nat → List V → AHeap → Prop) (n7 : Nat), Inv7 n7 [(.int .i64 0)] h ∧ ∀ (n7 : Nat) (e7 : Nat → V) (h : AHeap), Inv7 n7 [(e7 6)] h →
kv (lenD .slice v10_0 h) fun v21_8 =>
kv (binD .bad .lss false (e7 6) v21_8 h) fun v22_9 =>
ifV v22_9 (
kv (indexAddrD (.slice 1) v10_0 (e7 6)) fun v29_10 =>
kv (ldD .one v29_10 h) fun v30_11 =>
cl (F.table_Table_Get E) [a0, v30_11] h fun v31_12 h =>
kv (aExtract v31_12 0) fun v32_13 =>
kv (aExtract v31_12 1) fun v33_14 =>
kv (aUn .not v33_14) fun v35_15 =>
kv (gdV v35_15 false (some v10_0)) fun v37_16 =>
kv (gdV v35_15 false (some (e7 6))) fun v38_17 =>
kv (gdV v35_15 false (indexAddrD (.slice 1) v37_16 v38_17)) fun v39_18 =>
kv (gdV v35_15 false (ldD .one v39_18 h)) fun v40_19 =>
kv (gdV v35_15 false (some a1)) fun v41_20 =>
kv (gdV v35_15 false (aNil v41_20)) fun v42_21 =>
kv (gdV v35_15 false (fieldAddrD (some 2) v42_21)) fun v43_22 =>
kv (gdV v35_15 false (ldD .one v43_22 h)) fun v44_23 =>
kv (gdV v35_15 false (some (e7 6))) fun v45_24 =>
kv (gdV v35_15 false (indexAddrD (.slice 3) v44_23 v45_24)) fun v46_25 =>
kv (gdV v35_15 false (fieldAddrD (some 0) v46_25)) fun v47_26 =>
kv (gdV v35_15 false (ldD .one v47_26 h)) fun v48_27 =>
kv (gdV v35_15 false (binD .bad .neq false v40_19 v48_27 h)) fun v49_28 =>
kv (pickV v35_15 (.bool true) v49_28) fun v50_29 =>
kv (gdV v50_29 false (some v32_13)) fun v52_30 =>
kv (gdV v50_29 false (some a1)) fun v53_31 =>
kv (gdV v50_29 false (aNil v53_31)) fun v54_32 =>
kv (gdV v50_29 false (fieldAddrD (some 2) v54_32)) fun v55_33 =>
kv (gdV v50_29 false (ldD .one v55_33 h)) fun v56_34 =>
kv (gdV v50_29 false (some (e7 6))) fun v57_35 =>
kv (gdV v50_29 false (indexAddrD (.slice 3) v56_34 v57_35)) fun v58_36 =>
kv (gdV v50_29 false (fieldAddrD (some 1) v58_36)) fun v59_37 =>
kv (gdV v50_29 false (ldD .one v59_37 h)) fun v60_38 =>
kv (gdV v50_29 false (binD .bad .neq false v52_30 v60_38 h)) fun v61_39 =>
kv (pickV v50_29 (.bool true) v61_39) fun v62_40 =>
ifV v62_40 (
K (.bool false) h) (
kv (binD .bad .add true (e7 6) (.int .i64 1) h) fun v24_41 =>
∃ m, m < n7 ∧ Inv7 m [v24_41] h)) (
K (.bool true) h))
| _ => False

/-- estafette/estafettelaw8.TableAll -/
def F.estafettelaw8_TableAll (E : FE) : Spec := fun args h K => match args with
| [a0] =>
cl (F.estafettelaw8_begun E) [] h fun v14_0 h =>
kv (aUn .not v14_0) fun v16_1 =>
ifV v16_1 (
K (.bool false) h) (
cl (F.table_New E) [] h fun v17_2 h =>
cl (F.estafetteref8_New E) [(.int .i64 1), (.int .i64 1)] h fun v18_3 h =>
cl (F.table_Table_Clone E) [v17_2] h fun v20_4 h =>
cl (F.estafetteref8_Space_Clone E) [v18_3] h fun v22_5 h =>
∃ (Inv6 : Nat → List V → AHeap → Prop) (n6 : Nat), Inv6 n6 [v20_4, v22_5, (.int .i64 0)] h ∧ ∀ (n6 : Nat) (e6 : Nat → V) (h : AHeap), Inv6 n6 [(e6 6), (e6 7), (e6 8)] h →
kv (lenD .slice a0 h) fun v25_7 =>
kv (binD .bad .lss false (e6 8) v25_7 h) fun v26_8 =>
kv (gdV v26_8 true (some (e6 8))) fun v28_9 =>
kv (gdV v26_8 true (binD .bad .lss true v28_9 (.int .i64 90) h)) fun v29_10 =>
kv (pickV v26_8 v29_10 (.bool false)) fun v30_11 =>
ifV v30_11 (
kv (indexAddrD (.slice 6) a0 (e6 8)) fun v35_12 =>
kv (ldD (.agg 6) v35_12 h) fun v36_13 =>
kP (newD none (.agg #[(.int .i64 0), (.string ⟨#[]⟩), (.string ⟨#[]⟩), (.int .i64 0), (.int .i64 0), (.int .i64 0)]) h) fun v9_14 h =>
kH (stD (some 6) v9_14 v36_13 h) fun _ h =>
kv (fieldAddrD (some 0) v9_14) fun v37_15 =>
kv (ldD .one v37_15 h) fun v38_16 =>
∃ K17 : List V → AHeap → Prop, (
kv (binD .bad .eql true v38_16 (.int .i64 0) h) fun v62_18 =>
∃ K19 : List V → AHeap → Prop, (
ifV v62_18 (
K19 [v62_18] h) (
kv (binD .bad .eql true v38_16 (.int .i64 1) h) fun v63_20 =>
K19 [v63_20] h)) ∧ ∀ (e19 : Nat → V) (h : AHeap), K19 [(e19 61)] h →
ifV (e19 61) (
kv (fieldAddrD (some 1) v9_14) fun v65_21 =>
kv (ldD .one v65_21 h) fun v66_22 =>
kv (fieldAddrD (some 2) v9_14) fun v67_23 =>
kv (ldD .one v67_23 h) fun v68_24 =>
kv (fieldAddrD (some 1) v9_14) fun v71_25 =>
kv (ldD .one v71_25 h) fun v72_26 =>
kv (fieldAddrD (some 2) v9_14) fun v73_27 =>
kv (ldD .one v73_27 h) fun v74_28 =>
cl (F.table_Table_Put E) [v17_2, v66_22, v68_24] h fun v69_29 h =>
ldD .one v71_25 h = some v72_26 ∧
ldD .one v73_27 h = some v74_28 ∧
cl (F.estafetteref8_Space_Put E) [v18_3, v72_26, v74_28] h fun v75_30 h =>
kv (binD .bool .neq false v69_29 v75_30 h) fun v76_31 =>
ifV v76_31 (
K (.bool false) h) (
K17 [(e6 6), (e6 7)] h)) (
kv (binD .bad .eql true v38_16 (.int .i64 2) h) fun v78_32 =>
ifV v78_32 (
kv (fieldAddrD (some 1) v9_14) fun v80_33 =>
kv (ldD .one v80_33 h) fun v81_34 =>
kv (fieldAddrD (some 1) v9_14) fun v84_35 =>
kv (ldD .one v84_35 h) fun v85_36 =>
cl (F.table_Table_Del E) [v17_2, v81_34] h fun v82_37 h =>
ldD .one v84_35 h = some v85_36 ∧
cl (F.estafetteref8_Space_Del E) [v18_3, v85_36] h fun v86_38 h =>
kv (binD .bool .neq false v82_37 v86_38 h) fun v87_39 =>
ifV v87_39 (
K (.bool false) h) (
K17 [(e6 6), (e6 7)] h)) (
kv (binD .bad .eql true v38_16 (.int .i64 3) h) fun v89_40 =>
ifV v89_40 (
cl (F.table_Table_Clone E) [v17_2] h fun v91_41 h =>
cl (F.estafetteref8_Space_Clone E) [v18_3] h fun v93_42 h =>
K17 [v91_41, v93_42] h) (
kv (fieldAddrD (some 1) v9_14) fun v41_43 =>
kv (ldD .one v41_43 h) fun v42_44 =>
cl (F.table_Table_Get E) [v17_2, v42_44] h fun v43_45 h =>
kv (aExtract v43_45 0) fun v44_46 =>
kv (aExtract v43_45 1) fun v45_47 =>
kv (fieldAddrD (some 1) v9_14) fun v48_48 =>
kv (ldD .one v48_48 h) fun v49_49 =>
cl (F.estafetteref8_Space_Get E) [v18_3, v49_49] h fun v50_50 h =>
kv (aExtract v50_50 0) fun v51_51 =>
kv (aExtract v50_50 1) fun v52_52 =>
kv (binD .bad .neq false v44_46 v51_51 h) fun v55_53 =>
kv (gdV v55_53 false (some v45_47)) fun v57_54 =>
kv (gdV v55_53 false (some v52_52)) fun v58_55 =>
kv (gdV v55_53 false (binD .bool .neq false v57_54 v58_55 h)) fun v59_56 =>
kv (pickV v55_53 (.bool true) v59_56) fun v60_57 =>
ifV v60_57 (
K (.bool false) h) (
K17 [(e6 6), (e6 7)] h))))) ∧ ∀ (e17 : Nat → V) (h : AHeap), K17 [(e17 6), (e17 7)] h →
cl (F.estafettelaw8_sameTable E) [v17_2, v18_3] h fun v96_58 h =>
kv (aUn .not v96_58) fun v97_59 =>
kv (gdV v97_59 false (some (e17 6))) fun v99_60 =>
kv (gdV v97_59 false (some (e17 7))) fun v100_61 =>
gdC v97_59 false h (fun K62 => cl (F.estafettelaw8_sameTable E) [v99_60, v100_61] h fun v h => K62 v h) fun v101_63 h =>
kv (gdV v97_59 false (aUn .not v101_63)) fun v102_64 =>
kv (pickV v97_59 (.bool true) v102_64) fun v103_65 =>
ifV v103_65 (
K (.bool false) h) (
kv (binD .bad .add true (e6 8) (.int .i64 1) h) fun v32_66 =>
∃ m, m < n6 ∧ Inv6 m [(e17 6), (e17 7), v32_66] h)) (
K (.bool true) h))
| _ => False

/-- estafette/queue.New -/
def F.queue_New (E : FE) : Spec := fun args h K => match args with
| [a0] =>
kv (aMinMax true [a0, (.int .i64 1)]) fun v4_0 =>
kv (aMinMax false [v4_0, (.int .i64 9)]) fun v5_1 =>
kv (buildD (.struct [(.int .i64 0), (.slice none 0 0), (.slice none 0 0), (.int .i64 0)] [(0, 1), (1, 1), (2, 1), (3, 1)]) [(0, v5_1), (3, (.int .i64 1))]) fun v6_2 =>
kP (newD none v6_2 h) fun v7_3 h =>
K v7_3 h
| _ => False

/-- slices.Clone[[]estafette/api.Msg,estafette/api.Msg] -/
def F.slices_Clone_Sapi_Msg_api_Msg (E : FE) : Spec := fun args h K => match args with
| [a0] =>
kv (binD .slice .eql true a0 (.slice none 0 0) h) fun v4_0 =>
ifV v4_0 (
K (.slice none 0 0) h) (
kP (buildSliceD (some (4, [(.int .i64 0), (.string ⟨#[]⟩), (.int .i64 0), (.int .i64 0)])) 0 [] h) fun v5_1 h =>
kP (appendD (some (4, 40, [(.int .i64 0), (.string ⟨#[]⟩), (.int .i64 0), (.int .i64 0)])) v5_1 a0 h) fun v7_2 h =>
K v7_2 h)
| _ => False

/-- (*estafette/queue.Queue).Clone -/
def F.queue_Queue_Clone (E : FE) : Spec := fun args h K => match args with
| [a0] =>
kv (binD (.ptr true) .eql true a0 (.pointer none) h) fun v4_0 =>
ifV v4_0 (
K (.pointer none) h) (
kv (aNil a0) fun v6_1 =>
kv (fieldAddrD (some 0) v6_1) fun v7_2 =>
kv (ldD .one v7_2 h) fun v8_3 =>
kv (aNil a0) fun v10_4 =>
kv (fieldAddrD (some 1) v10_4) fun v11_5 =>
kv (ldD .one v11_5 h) fun v12_6 =>
kv (aNil a0) fun v15_7 =>
kv (fieldAddrD (some 2) v15_7) fun v16_8 =>
kv (ldD .one v16_8 h) fun v17_9 =>
kv (aNil a0) fun v20_10 =>
kv (fieldAddrD (some 3) v20_10) fun v21_11 =>
kv (ldD .one v21_11 h) fun v22_12 =>
cl (F.slices_Clone_Sapi_Msg_api_Msg E) [v12_6] h fun v13_13 h =>
ldD .one v7_2 h = some v8_3 ∧
ldD .one v16_8 h = some v17_9 ∧
ldD .one v21_11 h = some v22_12 ∧
cl (F.slices_Clone_Sapi_Msg_api_Msg E) [v17_9] h fun v18_14 h =>
ldD .one v7_2 h = some v8_3 ∧
ldD .one v21_11 h = some v22_12 ∧
kv (buildD (.struct [(.int .i64 0), (.slice none 0 0), (.slice none 0 0), (.int .i64 0)] [(0, 1), (1, 1), (2, 1), (3, 1)]) [(0, v8_3), (1, v13_13), (2, v18_14), (3, v22_12)]) fun v23_15 =>
kP (newD none v23_15 h) fun v24_16 h =>
K v24_16 h)
| _ => False

/-- (*estafette/queue.Queue).Send -/
def F.queue_Queue_Send (E : FE) : Spec := fun args h K => match args with
| [a0, a1] =>
kv (binD (.ptr true) .eql true a0 (.pointer none) h) fun v7_0 =>
kv (gdV v7_0 false (some a0)) fun v9_1 =>
kv (gdV v7_0 false (aNil v9_1)) fun v10_2 =>
kv (gdV v7_0 false (fieldAddrD (some 1) v10_2)) fun v11_3 =>
kv (gdV v7_0 false (ldD .one v11_3 h)) fun v12_4 =>
kv (gdV v7_0 false (lenD .slice v12_4 h)) fun v13_5 =>
kv (gdV v7_0 false (some a0)) fun v14_6 =>
kv (gdV v7_0 false (aNil v14_6)) fun v15_7 =>
kv (gdV v7_0 false (fieldAddrD (some 2) v15_7)) fun v16_8 =>
kv (gdV v7_0 false (ldD .one v16_8 h)) fun v17_9 =>
kv (gdV v7_0 false (lenD .slice v17_9 h)) fun v18_10 =>
kv (gdV v7_0 false (binD .bad .add false v13_5 v18_10 h)) fun v19_11 =>
kv (gdV v7_0 false (binD .bad .geq true v19_11 (.int .i64 64) h)) fun v20_12 =>
kv (pickV v7_0 (.bool true) v20_12) fun v21_13 =>
ifV v21_13 (
K (.tuple #[(.int .i64 0), (.bool false)]) h) (
kv (aNil a0) fun v24_14 =>
kv (fieldAddrD (some 1) v24_14) fun v25_15 =>
kv (ldD .one v25_15 h) fun v26_16 =>
kv (aNil a0) fun v28_17 =>
kv (fieldAddrD (some 3) v28_17) fun v29_18 =>
kv (ldD .one v29_18 h) fun v30_19 =>
kv (buildD (.struct [(.int .i64 0), (.string ⟨#[]⟩), (.int .i64 0), (.int .i64 0)] [(0, 1), (1, 1), (2, 1), (3, 1)]) [(0, v30_19), (1, a1)]) fun v32_20 =>
kP (buildSliceD (some (4, [(.int .i64 0), (.string ⟨#[]⟩), (.int .i64 0), (.int .i64 0)])) 1 [(0, v32_20)] h) fun v33_21 h =>
ldD .one v25_15 h = some v26_16 ∧
kP (appendD (some (4, 40, [(.int .i64 0), (.string ⟨#[]⟩), (.int .i64 0), (.int .i64 0)])) v26_16 v33_21 h) fun v34_22 h =>
kv (aNil a0) fun v35_23 =>
kv (fieldAddrD (some 1) v35_23) fun v36_24 =>
kH (stD (some 1) v36_24 v34_22 h) fun _ h =>
kv (aNil a0) fun v38_25 =>
kv (fieldAddrD (some 3) v38_25) fun v39_26 =>
kv (ldD .one v39_26 h) fun v40_27 =>
kv (binD .bad .add true v40_27 (.int .i64 1) h) fun v41_28 =>
kv (aNil a0) fun v42_29 =>
kv (fieldAddrD (some 3) v42_29) fun v43_30 =>
kH (stD (some 1) v43_30 v41_28 h) fun _ h =>
kv (aNil a0) fun v45_31 =>
kv (fieldAddrD (some 3) v45_31) fun v46_32 =>
kv (ldD .one v46_32 h) fun v47_33 =>
kv (binD .bad .sub true v47_33 (.int .i64 1) h) fun v48_34 =>
K (.tuple #[v48_34, (.bool true)]) h)
| _ => False

/-- (*estafette/estafetteref8.Space).Send -/
def F.estafetteref8_Space_Send (E : FE) : Spec := fun args h K => match args with
| [a0, a1] =>
kv (aNil a0) fun v7_0 =>
kv (fieldAddrD (some 4) v7_0) fun v8_1 =>
kv (ldD .one v8_1 h) fun v9_2 =>
kv (lenD .slice v9_2 h) fun v10_3 =>
kv (aNil a0) fun v12_4 =>
kv (fieldAddrD (some 5) v12_4) fun v13_5 =>
kv (ldD .one v13_5 h) fun v14_6 =>
kv (lenD .slice v14_6 h) fun v15_7 =>
kv (binD .bad .add false v10_3 v15_7 h) fun v16_8 =>
kv (binD .bad .geq true v16_8 (.int .i64 64) h) fun v17_9 =>
ifV v17_9 (
K (.tuple #[(.int .i64 0), (.bool false)]) h) (
kv (aNil a0) fun v20_10 =>
kv (fieldAddrD (some 4) v20_10) fun v21_11 =>
kv (ldD .one v21_11 h) fun v22_12 =>
kv (aNil a0) fun v24_13 =>
kv (fieldAddrD (some 6) v24_13) fun v25_14 =>
kv (ldD .one v25_14 h) fun v26_15 =>
kv (buildD (.struct [(.int .i64 0), (.string ⟨#[]⟩), (.int .i64 0), (.int .i64 0)] [(0, 1), (1, 1), (2, 1), (3, 1)]) [(0, v26_15), (1, a1)]) fun v28_16 =>
kP (buildSliceD (some (4, [(.int .i64 0), (.string ⟨#[]⟩), (.int .i64 0), (.int .i64 0)])) 1 [(0, v28_16)] h) fun v29_17 h =>
ldD .one v21_11 h = some v22_12 ∧
kP (appendD (some (4, 40, [(.int .i64 0), (.string ⟨#[]⟩), (.int .i64 0), (.int .i64 0)])) v22_12 v29_17 h) fun v30_18 h =>
kv (aNil a0) fun v31_19 =>
kv (fieldAddrD (some 4) v31_19) fun v32_20 =>
kH (stD (some 1) v32_20 v30_18 h) fun _ h =>
kv (aNil a0) fun v34_21 =>
kv (fieldAddrD (some 6) v34_21) fun v35_22 =>
kv (ldD .one v35_22 h) fun v36_23 =>
kv (binD .bad .add true v36_23 (.int .i64 1) h) fun v37_24 =>
kv (aNil a0) fun v38_25 =>
kv (fieldAddrD (some 6) v38_25) fun v39_26 =>
kH (stD (some 1) v39_26 v37_24 h) fun _ h =>
kv (aNil a0) fun v41_27 =>
kv (fieldAddrD (some 6) v41_27) fun v42_28 =>
kv (ldD .one v42_28 h) fun v43_29 =>
kv (binD .bad .sub true v43_29 (.int .i64 1) h) fun v44_30 =>
K (.tuple #[v44_30, (.bool true)]) h)
| _ => False

/-- slices.Delete[[]estafette/api.Msg,estafette/api.Msg] -/
def F.slices_Delete_Sapi_Msg_api_Msg (E : FE) : Spec := fun args h K => match args with
| [a0, a1, a2] =>
kv (lenD .slice a0 h) fun v12_0 =>
kv (sliceD (.slice 4) a0 (some a1) (some a2) (some v12_0) h) fun v13_1 =>
kv (binD .bad .eql false a1 a2 h) fun v16_2 =>
ifV v16_2 (
K a0 h) (
kv (lenD .slice a0 h) fun v19_3 =>
kv (sliceD (.slice 4) a0 none (some a1) none h) fun v22_4 =>
kv (sliceD (.slice 4) a0 (some a2) none none h) fun v25_5 =>
kP (appendD (some (4, 40, [(.int .i64 0), (.string ⟨#[]⟩), (.int .i64 0), (.int .i64 0)])) v22_4 v25_5 h) fun v26_6 h =>
kv (lenD .slice v26_6 h) fun v29_7 =>
kv (sliceD (.slice 4) v26_6 (some v29_7) (some v19_3) none h) fun v31_8 =>
kH (clearD (some (some [(.int .i64 0), (.string ⟨#[]⟩), (.int .i64 0), (.int .i64 0)])) v31_8 h) fun _ h =>
K v26_6 h)
| _ => False

/-- (*estafette/queue.Queue).Recv -/
def F.queue_Queue_Recv (E : FE) : Spec := fun args h K => match args with
| [a0, a1, a2] =>
kP (newD none (.agg #[(.int .i64 0), (.string ⟨#[]⟩), (.int .i64 0), (.int .i64 0)]) h) fun v6_0 h =>
kv (binD (.ptr true) .eql true a0 (.pointer none) h) fun v11_1 =>
kv (gdV v11_1 false (some a2)) fun v13_2 =>
kv (gdV v11_1 false (binD .bad .lss true v13_2 (.int .i64 1) h)) fun v14_3 =>
kv (pickV v11_1 (.bool true) v14_3) fun v15_4 =>
kv (gdV v15_4 false (some a2)) fun v17_5 =>
kv (gdV v15_4 false (binD .bad .gtr true v17_5 (.int .i64 1000) h)) fun v18_6 =>
kv (pickV v15_4 (.bool true) v18_6) fun v19_7 =>
kv (gdV v19_7 false (some a1)) fun v21_8 =>
kv (gdV v19_7 false (binD .bad .lss true v21_8 (.int .i64 0) h)) fun v22_9 =>
kv (pickV v19_7 (.bool true) v22_9) fun v23_10 =>
kv (gdV v23_10 false (some a1)) fun v25_11 =>
kv (gdV v23_10 false (binD .bad .gtr true v25_11 (.int .i64 1099511627776) h)) fun v26_12 =>
kv (pickV v23_10 (.bool true) v26_12) fun v27_13 =>
ifV v27_13 (
kv (buildD (.struct [(.int .i64 0), (.string ⟨#[]⟩), (.int .i64 0), (.int .i64 0)] [(0, 1), (1, 1), (2, 1), (3, 1)]) []) fun v28_14 =>
kH (stD (some 4) v6_0 v28_14 h) fun _ h =>
kv (ldD (.agg 4) v6_0 h) fun r15 =>
K (.tuple #[r15, (.bool false)]) h) (
∃ (Inv16 : Nat → List V → AHeap → Prop) (n16 : Nat), Inv16 n16 [(.int .i64 0)] h ∧ ∀ (n16 : Nat) (e16 : Nat → V) (h : AHeap), Inv16 n16 [(e16 8)] h →
kv (aNil a0) fun v31_17 =>
kv (fieldAddrD (some 1) v31_17) fun v32_18 =>
kv (ldD .one v32_18 h) fun v33_19 =>
kv (lenD .slice v33_19 h) fun v34_20 =>
kv (binD .bad .lss false (e16 8) v34_20 h) fun v35_21 =>
ifV v35_21 (
kv (aNil a0) fun v37_22 =>
kv (fieldAddrD (some 1) v37_22) fun v38_23 =>
kv (ldD .one v38_23 h) fun v39_24 =>
kv (indexAddrD (.slice 4) v39_24 (e16 8)) fun v41_25 =>
kv (aNil v41_25) fun v60_26 =>
kv (fieldAddrD (some 3) v60_26) fun v61_27 =>
kv (ldD .one v61_27 h) fun v62_28 =>
kv (binD .bad .gtr false v62_28 a1 h) fun v64_29 =>
ifV v64_29 (
kv (binD .bad .add true (e16 8) (.int .i64 1) h) fun v66_30 =>
∃ m, m < n16 ∧ Inv16 m [v66_30] h) (
kv (aNil v41_25) fun v69_31 =>
kv (fieldAddrD (some 2) v69_31) fun v70_32 =>
kv (ldD .one v70_32 h) fun v71_33 =>
kv (aNil a0) fun v73_34 =>
kv (fieldAddrD (some 0) v73_34) fun v74_35 =>
kv (ldD .one v74_35 h) fun v75_36 =>
kv (binD .bad .geq false v71_33 v75_36 h) fun v76_37 =>
ifV v76_37 (
kv (aNil a0) fun v79_38 =>
kv (fieldAddrD (some 2) v79_38) fun v80_39 =>
kv (ldD .one v80_39 h) fun v81_40 =>
kv (aNil v41_25) fun v83_41 =>
kv (ldD (.agg 4) v83_41 h) fun v84_42 =>
kP (buildSliceD (some (4, [(.int .i64 0), (.string ⟨#[]⟩), (.int .i64 0), (.int .i64 0)])) 1 [(0, v84_42)] h) fun v85_43 h =>
ldD .one v80_39 h = some v81_40 ∧
kP (appendD (some (4, 40, [(.int .i64 0), (.string ⟨#[]⟩), (.int .i64 0), (.int .i64 0)])) v81_40 v85_43 h) fun v86_44 h =>
kv (aNil a0) fun v87_45 =>
kv (fieldAddrD (some 2) v87_45) fun v88_46 =>
kH (stD (some 1) v88_46 v86_44 h) fun _ h =>
kv (aNil a0) fun v91_47 =>
kv (fieldAddrD (some 1) v91_47) fun v92_48 =>
kv (ldD .one v92_48 h) fun v93_49 =>
kv (binD .bad .add true (e16 8) (.int .i64 1) h) fun v96_50 =>
cl (F.slices_Delete_Sapi_Msg_api_Msg E) [v93_49, (e16 8), v96_50] h fun v97_51 h =>
kv (aNil a0) fun v98_52 =>
kv (fieldAddrD (some 1) v98_52) fun v99_53 =>
kH (stD (some 1) v99_53 v97_51 h) fun _ h =>
∃ m, m < n16 ∧ Inv16 m [(e16 8)] h) (
kv (aNil v41_25) fun v43_54 =>
kv (fieldAddrD (some 2) v43_54) fun v44_55 =>
kv (ldD .one v44_55 h) fun v45_56 =>
kv (binD .bad .add true v45_56 (.int .i64 1) h) fun v46_57 =>
kv (aNil v41_25) fun v47_58 =>
kv (fieldAddrD (some 2) v47_58) fun v48_59 =>
kH (stD (some 1) v48_59 v46_57 h) fun _ h =>
kv (binD .bad .add false a1 a2 h) fun v52_60 =>
kv (aNil v41_25) fun v53_61 =>
kv (fieldAddrD (some 3) v53_61) fun v54_62 =>
kH (stD (some 1) v54_62 v52_60 h) fun _ h =>
kv (aNil v41_25) fun v56_63 =>
kv (ldD (.agg 4) v56_63 h) fun v57_64 =>
kH (stD (some 4) v6_0 v57_64 h) fun _ h =>
kv (ldD (.agg 4) v6_0 h) fun r65 =>
K (.tuple #[r65, (.bool true)]) h))) (
kv (buildD (.struct [(.int .i64 0), (.string ⟨#[]⟩), (.int .i64 0), (.int .i64 0)] [(0, 1), (1, 1), (2, 1), (3, 1)]) []) fun v100_66 =>
kH (stD (some 4) v6_0 v100_66 h) fun _ h =>
kv (ldD (.agg 4) v6_0 h) fun r67 =>
K (.tuple #[r67, (.bool false)]) h))
| _ => False

/-- (*estafette/estafetteref8.Space).Recv -/
def F.estafetteref8_Space_Recv (E : FE) : Spec := fun args h K => match args with
| [a0, a1, a2] =>
kP (newD none (.agg #[(.int .i64 0), (.string ⟨#[]⟩), (.int .i64 0), (.int .i64 0)]) h) fun v6_0 h =>
kv (binD .bad .lss true a2 (.int .i64 1) h) fun v14_1 =>
kv (gdV v14_1 false (some a2)) fun v16_2 =>
kv (gdV v14_1 false (binD .bad .gtr true v16_2 (.int .i64 1000) h)) fun v17_3 =>
kv (pickV v14_1 (.bool true) v17_3) fun v18_4 =>
kv (gdV v18_4 false (some a1)) fun v20_5 =>
kv (gdV v18_4 false (binD .bad .lss true v20_5 (.int .i64 0) h)) fun v21_6 =>
kv (pickV v18_4 (.bool true) v21_6) fun v22_7 =>
kv (gdV v22_7 false (some a1)) fun v24_8 =>
kv (gdV v22_7 false (binD .bad .gtr true v24_8 (.int .i64 1099511627776) h)) fun v25_9 =>
kv (pickV v22_7 (.bool true) v25_9) fun v26_10 =>
ifV v26_10 (
kv (buildD (.struct [(.int .i64 0), (.string ⟨#[]⟩), (.int .i64 0), (.int .i64 0)] [(0, 1), (1, 1), (2, 1), (3, 1)]) []) fun v27_11 =>
kH (stD (some 4) v6_0 v27_11 h) fun _ h =>
kv (ldD (.agg 4) v6_0 h) fun r12 =>
K (.tuple #[r12, (.bool false)]) h) (
kP (newD none (.agg #[(.int .i64 0), (.string ⟨#[]⟩), (.int .i64 0), (.int .i64 0)]) h) fun v9_13 h =>
∃ (Inv14 : Nat → List V → AHeap → Prop) (n14 : Nat), Inv14 n14 [(.slice none 0 0), (.int .i64 0)] h ∧ ∀ (n14 : Nat) (e14 : Nat → V) (h : AHeap), Inv14 n14 [(e14 8), (e14 10)] h →
kv (aNil a0) fun v30_15 =>
kv (fieldAddrD (some 4) v30_15) fun v31_16 =>
kv (ldD .one v31_16 h) fun v32_17 =>
kv (lenD .slice v32_17 h) fun v33_18 =>
kv (binD .bad .lss false (e14 10) v33_18 h) fun v34_19 =>
ifV v34_19 (
kv (aNil a0) fun v38_20 =>
kv (fieldAddrD (some 4) v38_20) fun v39_21 =>
kv (ldD .one v39_21 h) fun v40_22 =>
kv (indexAddrD (.slice 4) v40_22 (e14 10)) fun v42_23 =>
kv (ldD (.agg 4) v42_23 h) fun v43_24 =>
kP (newD none (.agg #[(.int .i64 0), (.string ⟨#[]⟩), (.int .i64 0), (.int .i64 0)]) h) fun v11_25 h =>
kH (stD (some 4) v11_25 v43_24 h) fun _ h =>
kv (fieldAddrD (some 0) v9_13) fun v44_26 =>
kv (ldD .one v44_26 h) fun v45_27 =>
kv (binD .bad .eql true v45_27 (.int .i64 0) h) fun v46_28 =>
kv (gdV v46_28 true (fieldAddrD (some 3) v11_25)) fun v48_29 =>
kv (gdV v46_28 true (ldD .one v48_29 h)) fun v49_30 =>
kv (gdV v46_28 true (binD .bad .eql true v49_30 (.int .i64 0) h)) fun v50_31 =>
kv (gdV v46_28 true (some v50_31)) fun v51_32 =>
kv (gdV v51_32 false (fieldAddrD (some 3) v11_25)) fun v52_33 =>
kv (gdV v51_32 false (ldD .one v52_33 h)) fun v53_34 =>
kv (gdV v51_32 false (some a1)) fun v54_35 =>
kv (gdV v51_32 false (binD .bad .leq false v53_34 v54_35 h)) fun v55_36 =>
kv (gdV v46_28 true (pickV v51_32 (.bool true) v55_36)) fun v56_37 =>
kv (pickV v46_28 v56_37 (.bool false)) fun v57_38 =>
∃ K39 : List V → AHeap → Prop, (
kv (gdV v57_38 true (fieldAddrD (some 2) v11_25)) fun v61_40 =>
kv (gdV v57_38 true (ldD .one v61_40 h)) fun v62_41 =>
kv (gdV v57_38 true (some a0)) fun v63_42 =>
kv (gdV v57_38 true (aNil v63_42)) fun v64_43 =>
kv (gdV v57_38 true (fieldAddrD (some 3) v64_43)) fun v65_44 =>
kv (gdV v57_38 true (ldD .one v65_44 h)) fun v66_45 =>
kv (gdV v57_38 true (binD .bad .geq false v62_41 v66_45 h)) fun v67_46 =>
kv (pickV v57_38 v67_46 (.bool false)) fun v68_47 =>
ifV v68_47 (
kv (aNil a0) fun v71_48 =>
kv (fieldAddrD (some 5) v71_48) fun v72_49 =>
kv (ldD .one v72_49 h) fun v73_50 =>
kv (ldD (.agg 4) v11_25 h) fun v74_51 =>
kP (buildSliceD (some (4, [(.int .i64 0), (.string ⟨#[]⟩), (.int .i64 0), (.int .i64 0)])) 1 [(0, v74_51)] h) fun v75_52 h =>
ldD .one v72_49 h = some v73_50 ∧
kP (appendD (some (4, 40, [(.int .i64 0), (.string ⟨#[]⟩), (.int .i64 0), (.int .i64 0)])) v73_50 v75_52 h) fun v76_53 h =>
kv (aNil a0) fun v77_54 =>
kv (fieldAddrD (some 5) v77_54) fun v78_55 =>
kH (stD (some 1) v78_55 v76_53 h) fun _ h =>
kv (binD .bad .add true (e14 10) (.int .i64 1) h) fun v36_56 =>
∃ m, m < n14 ∧ Inv14 m [(e14 8), v36_56] h) (
ifV v57_38 (
kv (fieldAddrD (some 2) v11_25) fun v81_57 =>
kv (ldD .one v81_57 h) fun v82_58 =>
kv (binD .bad .add true v82_58 (.int .i64 1) h) fun v83_59 =>
kv (binD .bad .add false a1 a2 h) fun v86_60 =>
kv (fieldAddrD (some 2) v11_25) fun v87_61 =>
kH (stD (some 1) v87_61 v83_59 h) fun _ h =>
kv (fieldAddrD (some 3) v11_25) fun v88_62 =>
kH (stD (some 1) v88_62 v86_60 h) fun _ h =>
kv (ldD (.agg 4) v11_25 h) fun v89_63 =>
kH (stD (some 4) v9_13 v89_63 h) fun _ h =>
K39 [] h) (
K39 [] h))) ∧ ∀ (e39 : Nat → V) (h : AHeap), K39 [] h →
kv (ldD (.agg 4) v11_25 h) fun v91_64 =>
kP (buildSliceD (some (4, [(.int .i64 0), (.string ⟨#[]⟩), (.int .i64 0), (.int .i64 0)])) 1 [(0, v91_64)] h) fun v92_65 h =>
kP (appendD (some (4, 40, [(.int .i64 0), (.string ⟨#[]⟩), (.int .i64 0), (.int .i64 0)])) (e14 8) v92_65 h) fun v93_66 h =>
kv (binD .bad .add true (e14 10) (.int .i64 1) h) fun v36_67 =>
∃ m, m < n14 ∧ Inv14 m [v93_66, v36_67] h) (
kv (aNil a0) fun v96_68 =>
kv (fieldAddrD (some 4) v96_68) fun v97_69 =>
kH (stD (some 1) v97_69 (e14 8) h) fun _ h =>
kv (ldD (.agg 4) v9_13 h) fun v98_70 =>
kv (fieldAddrD (some 0) v9_13) fun v99_71 =>
kv (ldD .one v99_71 h) fun v100_72 =>
kv (binD .bad .gtr true v100_72 (.int .i64 0) h) fun v101_73 =>
kH (stD (some 4) v6_0 v98_70 h) fun _ h =>
ldD .one v99_71 h = some v100_72 ∧
kv (ldD (.agg 4) v6_0 h) fun r74 =>
K (.tuple #[r74, v101_73]) h))
| _ => False

/-- slices.IndexFunc[[]estafette/api.Msg,estafette/api.Msg] -/
def F.slices_IndexFunc_Sapi_Msg_api_Msg (E : FE) : Spec := fun args h K => match args with
| [a0, a1] =>
kv (lenD .slice a0 h) fun v7_0 =>
∃ (Inv1 : Nat → List V → AHeap → Prop) (n1 : Nat), Inv1 n1 [(.int .i64 0)] h ∧ ∀ (n1 : Nat) (e1 : Nat → V) (h : AHeap), Inv1 n1 [(e1 8)] h →
kv (binD .bad .lss false (e1 8) v7_0 h) fun v9_2 =>
ifV v9_2 (
kv (indexAddrD (.slice 4) a0 (e1 8)) fun v14_3 =>
kv (ldD (.agg 4) v14_3 h) fun v15_4 =>
aCall E.I a1 [v15_4] h fun v16_5 h =>
ifV v16_5 (
K (e1 8) h) (
kv (binD .bad .add true (e1 8) (.int .i64 1) h) fun v18_6 =>
∃ m, m < n1 ∧ Inv1 m [v18_6] h)) (
K (.int .i64 (-1)) h)
| _ => False

/-- (*estafette/queue.Queue).Ack$1 -/
def F.queue_Queue_Ack_1 (E : FE) : Spec := fun args h K => match args with
| [a0, a1, a2, a3] =>
kP (newD none a0 h) fun v4_0 h =>
kv (fieldAddrD (some 0) v4_0) fun v6_1 =>
kv (ldD .one v6_1 h) fun v7_2 =>
kv (ldD .one a1 h) fun v8_3 =>
kv (binD .bad .eql false v7_2 v8_3 h) fun v9_4 =>
kv (gdV v9_4 true (fieldAddrD (some 2) v4_0)) fun v11_5 =>
kv (gdV v9_4 true (ldD .one v11_5 h)) fun v12_6 =>
kv (gdV v9_4 true (ldD .one a2 h)) fun v13_7 =>
kv (gdV v9_4 true (binD .bad .eql false v12_6 v13_7 h)) fun v14_8 =>
kv (pickV v9_4 v14_8 (.bool false)) fun v15_9 =>
kv (gdV v15_9 true (fieldAddrD (some 3) v4_0)) fun v17_10 =>
kv (gdV v15_9 true (ldD .one v17_10 h)) fun v18_11 =>
kv (gdV v15_9 true (ldD .one a3 h)) fun v19_12 =>
kv (gdV v15_9 true (binD .bad .gtr false v18_11 v19_12 h)) fun v20_13 =>
kv (pickV v15_9 v20_13 (.bool false)) fun v21_14 =>
K v21_14 h
| _ => False

/-- (*estafette/queue.Queue).Ack -/
def F.queue_Queue_Ack (E : FE) : Spec := fun args h K => match args with
| [a0, a1, a2, a3] =>
kP (newD none a1 h) fun v5_0 h =>
kP (newD none a2 h) fun v6_1 h =>
kP (newD none a3 h) fun v7_2 h =>
kv (binD (.ptr true) .eql true a0 (.pointer none) h) fun v11_3 =>
ifV v11_3 (
K (.bool false) h) (
kv (aNil a0) fun v13_4 =>
kv (fieldAddrD (some 1) v13_4) fun v14_5 =>
kv (ldD .one v14_5 h) fun v15_6 =>
cl (F.slices_IndexFunc_Sapi_Msg_api_Msg E) [v15_6, (.func (.func (E.k 0)) #[] #[v5_0, v6_1, v7_2])] h fun v17_7 h =>
kv (binD .bad .lss true v17_7 (.int .i64 0) h) fun v19_8 =>
ifV v19_8 (
K (.bool false) h) (
kv (aNil a0) fun v22_9 =>
kv (fieldAddrD (some 1) v22_9) fun v23_10 =>
kv (ldD .one v23_10 h) fun v24_11 =>
kv (binD .bad .add true v17_7 (.int .i64 1) h) fun v27_12 =>
cl (F.slices_Delete_Sapi_Msg_api_Msg E) [v24_11, v17_7, v27_12] h fun v28_13 h =>
kv (aNil a0) fun v29_14 =>
kv (fieldAddrD (some 1) v29_14) fun v30_15 =>
kH (stD (some 1) v30_15 v28_13 h) fun _ h =>
K (.bool true) h))
| _ => False

/-- (*estafette/estafetteref8.Space).Ack -/
def F.estafetteref8_Space_Ack (E : FE) : Spec := fun args h K => match args with
| [a0, a1, a2, a3] =>
∃ (Inv0 : Nat → List V → AHeap → Prop) (n0 : Nat), Inv0 n0 [(.int .i64 0)] h ∧ ∀ (n0 : Nat) (e0 : Nat → V) (h : AHeap), Inv0 n0 [(e0 9)] h →
kv (aNil a0) fun v13_1 =>
kv (fieldAddrD (some 4) v13_1) fun v14_2 =>
kv (ldD .one v14_2 h) fun v15_3 =>
kv (lenD .slice v15_3 h) fun v16_4 =>
kv (binD .bad .lss false (e0 9) v16_4 h) fun v17_5 =>
ifV v17_5 (
kv (aNil a0) fun v21_6 =>
kv (fieldAddrD (some 4) v21_6) fun v22_7 =>
kv (ldD .one v22_7 h) fun v23_8 =>
kv (indexAddrD (.slice 4) v23_8 (e0 9)) fun v25_9 =>
kv (ldD (.agg 4) v25_9 h) fun v26_10 =>
kP (newD none (.agg #[(.int .i64 0), (.string ⟨#[]⟩), (.int .i64 0), (.int .i64 0)]) h) fun v10_11 h =>
kH (stD (some 4) v10_11 v26_10 h) fun _ h =>
kv (fieldAddrD (some 0) v10_11) fun v27_12 =>
kv (ldD .one v27_12 h) fun v28_13 =>
kv (binD .bad .eql false v28_13 a1 h) fun v30_14 =>
kv (gdV v30_14 true (fieldAddrD (some 2) v10_11)) fun v32_15 =>
kv (gdV v30_14 true (ldD .one v32_15 h)) fun v33_16 =>
kv (gdV v30_14 true (some a2)) fun v34_17 =>
kv (gdV v30_14 true (binD .bad .eql false v33_16 v34_17 h)) fun v35_18 =>
kv (pickV v30_14 v35_18 (.bool false)) fun v36_19 =>
kv (gdV v36_19 true (fieldAddrD (some 3) v10_11)) fun v38_20 =>
kv (gdV v36_19 true (ldD .one v38_20 h)) fun v39_21 =>
kv (gdV v36_19 true (some a3)) fun v40_22 =>
kv (gdV v36_19 true (binD .bad .gtr false v39_21 v40_22 h)) fun v41_23 =>
kv (pickV v36_19 v41_23 (.bool false)) fun v42_24 =>
ifV v42_24 (
kv (aNil a0) fun v45_25 =>
kv (fieldAddrD (some 4) v45_25) fun v46_26 =>
kv (ldD .one v46_26 h) fun v47_27 =>
kv (sliceD (.slice 4) v47_27 none (some (e0 9)) none h) fun v49_28 =>
kv (aNil a0) fun v52_29 =>
kv (fieldAddrD (some 4) v52_29) fun v53_30 =>
kv (ldD .one v53_30 h) fun v54_31 =>
kv (binD .bad .add true (e0 9) (.int .i64 1) h) fun v56_32 =>
kv (sliceD (.slice 4) v54_31 (some v56_32) none none h) fun v57_33 =>
kP (appendD (some (4, 40, [(.int .i64 0), (.string ⟨#[]⟩), (.int .i64 0), (.int .i64 0)])) (.slice none 0 0) v49_28 h) fun v50_34 h =>
ldD .one v53_30 h = some v54_31 ∧
sliceD (.slice 4) v54_31 (some v56_32) none none h = some v57_33 ∧
kP (appendD (some (4, 40, [(.int .i64 0), (.string ⟨#[]⟩), (.int .i64 0), (.int .i64 0)])) v50_34 v57_33 h) fun v58_35 h =>
kv (aNil a0) fun v59_36 =>
kv (fieldAddrD (some 4) v59_36) fun v60_37 =>
kH (stD (some 1) v60_37 v58_35 h) fun _ h =>
K (.bool true) h) (
kv (binD .bad .add true (e0 9) (.int .i64 1) h) fun v19_38 =>
∃ m, m < n0 ∧ Inv0 m [v19_38] h)) (
K (.bool false) h)
| _ => False

/-- (*estafette/queue.Queue).Dead -/
def F.queue_Queue_Dead (E : FE) : Spec := fun args h K => match args with
| [a0] =>
kP (newD none (.agg #[(.int .i64 0), (.string ⟨#[]⟩), (.int .i64 0), (.int .i64 0)]) h) fun v2_0 h =>
kv (binD (.ptr true) .eql true a0 (.pointer none) h) fun v6_1 =>
kv (gdV v6_1 false (some a0)) fun v8_2 =>
kv (gdV v6_1 false (aNil v8_2)) fun v9_3 =>
kv (gdV v6_1 false (fieldAddrD (some 2) v9_3)) fun v10_4 =>
kv (gdV v6_1 false (ldD .one v10_4 h)) fun v11_5 =>
kv (gdV v6_1 false (lenD .slice v11_5 h)) fun v12_6 =>
kv (gdV v6_1 false (binD .bad .eql true v12_6 (.int .i64 0) h)) fun v13_7 =>
kv (pickV v6_1 (.bool true) v13_7) fun v14_8 =>
ifV v14_8 (
kv (buildD (.struct [(.int .i64 0), (.string ⟨#[]⟩), (.int .i64 0), (.int .i64 0)] [(0, 1), (1, 1), (2, 1), (3, 1)]) []) fun v15_9 =>
kH (stD (some 4) v2_0 v15_9 h) fun _ h =>
kv (ldD (.agg 4) v2_0 h) fun r10 =>
K (.tuple #[r10, (.bool false)]) h) (
kv (aNil a0) fun v17_11 =>
kv (fieldAddrD (some 2) v17_11) fun v18_12 =>
kv (ldD .one v18_12 h) fun v19_13 =>
kv (indexAddrD (.slice 4) v19_13 (.int .i64 0)) fun v20_14 =>
kv (ldD (.agg 4) v20_14 h) fun v21_15 =>
kP (newD none (.agg #[(.int .i64 0), (.string ⟨#[]⟩), (.int .i64 0), (.int .i64 0)]) h) fun v4_16 h =>
kH (stD (some 4) v4_16 v21_15 h) fun _ h =>
kv (aNil a0) fun v24_17 =>
kv (fieldAddrD (some 2) v24_17) fun v25_18 =>
kv (ldD .one v25_18 h) fun v26_19 =>
cl (F.slices_Delete_Sapi_Msg_api_Msg E) [v26_19, (.int .i64 0), (.int .i64 1)] h fun v27_20 h =>
kv (aNil a0) fun v28_21 =>
kv (fieldAddrD (some 2) v28_21) fun v29_22 =>
kH (stD (some 1) v29_22 v27_20 h) fun _ h =>
kv (ldD (.agg 4) v4_16 h) fun v30_23 =>
kH (stD (some 4) v2_0 v30_23 h) fun _ h =>
kv (ldD (.agg 4) v2_0 h) fun r24 =>
K (.tuple #[r24, (.bool true)]) h)
| _ => False

/-- (*estafette/estafetteref8.Space).Dead -/
def F.estafetteref8_Space_Dead (E : FE) : Spec := fun args h K => match args with
| [a0] =>
kP (newD none (.agg #[(.int .i64 0), (.string ⟨#[]⟩), (.int .i64 0), (.int .i64 0)]) h) fun v2_0 h =>
kv (aNil a0) fun v6_1 =>
kv (fieldAddrD (some 5) v6_1) fun v7_2 =>
kv (ldD .one v7_2 h) fun v8_3 =>
kv (lenD .slice v8_3 h) fun v9_4 =>
kv (binD .bad .eql true v9_4 (.int .i64 0) h) fun v10_5 =>
ifV v10_5 (
kv (buildD (.struct [(.int .i64 0), (.string ⟨#[]⟩), (.int .i64 0), (.int .i64 0)] [(0, 1), (1, 1), (2, 1), (3, 1)]) []) fun v11_6 =>
kH (stD (some 4) v2_0 v11_6 h) fun _ h =>
kv (ldD (.agg 4) v2_0 h) fun r7 =>
K (.tuple #[r7, (.bool false)]) h) (
kv (aNil a0) fun v13_8 =>
kv (fieldAddrD (some 5) v13_8) fun v14_9 =>
kv (ldD .one v14_9 h) fun v15_10 =>
kv (indexAddrD (.slice 4) v15_10 (.int .i64 0)) fun v16_11 =>
kv (ldD (.agg 4) v16_11 h) fun v17_12 =>
kP (newD none (.agg #[(.int .i64 0), (.string ⟨#[]⟩), (.int .i64 0), (.int .i64 0)]) h) fun v4_13 h =>
kH (stD (some 4) v4_13 v17_12 h) fun _ h =>
kv (aNil a0) fun v20_14 =>
kv (fieldAddrD (some 5) v20_14) fun v21_15 =>
kv (ldD .one v21_15 h) fun v22_16 =>
kv (sliceD (.slice 4) v22_16 (some (.int .i64 1)) none none h) fun v23_17 =>
kP (appendD (some (4, 40, [(.int .i64 0), (.string ⟨#[]⟩), (.int .i64 0), (.int .i64 0)])) (.slice none 0 0) v23_17 h) fun v24_18 h =>
kv (aNil a0) fun v25_19 =>
kv (fieldAddrD (some 5) v25_19) fun v26_20 =>
kH (stD (some 1) v26_20 v24_18 h) fun _ h =>
kv (ldD (.agg 4) v4_13 h) fun v27_21 =>
kH (stD (some 4) v2_0 v27_21 h) fun _ h =>
kv (ldD (.agg 4) v2_0 h) fun r22 =>
K (.tuple #[r22, (.bool true)]) h)
| _ => False

/-- (*estafette/queue.Queue).Items -/
def F.queue_Queue_Items (E : FE) : Spec := fun args h K => match args with
| [a0] =>
kv (binD (.ptr true) .eql true a0 (.pointer none) h) fun v4_0 =>
ifV v4_0 (
K (.slice none 0 0) h) (
kv (aNil a0) fun v6_1 =>
kv (fieldAddrD (some 1) v6_1) fun v7_2 =>
kv (ldD .one v7_2 h) fun v8_3 =>
cl (F.slices_Clone_Sapi_Msg_api_Msg E) [v8_3] h fun v9_4 h =>
K v9_4 h)
| _ => False

/-- estafette/estafettelaw8.msgs -/
def F.estafettelaw8_msgs (E : FE) : Spec := fun args h K => match args with
| [a0, a1] =>
kv (lenD .slice a0 h) fun v7_0 =>
kv (lenD .slice a1 h) fun v9_1 =>
kv (binD .bad .neq false v7_0 v9_1 h) fun v10_2 =>
ifV v10_2 (
K (.bool false) h) (
∃ (Inv3 : Nat → List V → AHeap → Prop) (n3 : Nat), Inv3 n3 [(.int .i64 0)] h ∧ ∀ (n3 : Nat) (e3 : Nat → V) (h : AHeap), Inv3 n3 [(e3 5)] h →
kv (lenD .slice a0 h) fun v13_4 =>
kv (binD .bad .lss false (e3 5) v13_4 h) fun v14_5 =>
ifV v14_5 (
kv (indexAddrD (.slice 4) a0 (e3 5)) fun v19_6 =>
kv (ldD (.agg 4) v19_6 h) fun v20_7 =>
kv (indexAddrD (.slice 4) a1 (e3 5)) fun v23_8 =>
kv (ldD (.agg 4) v23_8 h) fun v24_9 =>
kv (binD (.struct [(0, .int), (1, .string), (2, .int), (3, .int)]) .neq false v20_7 v24_9 h) fun v25_10 =>
ifV v25_10 (
K (.bool false) h) (
kv (binD .bad .add true (e3 5) (.int .i64 1) h) fun v16_11 =>
∃ m, m < n3 ∧ Inv3 m [v16_11] h)) (
K (.bool true) h))
| _ => False

/-- (*estafette/queue.Queue).Lost -/
def F.queue_Queue_Lost (E : FE) : Spec := fun args h K => match args with
| [a0] =>
kv (binD (.ptr true) .eql true a0 (.pointer none) h) fun v4_0 =>
ifV v4_0 (
K (.slice none 0 0) h) (
kv (aNil a0) fun v6_1 =>
kv (fieldAddrD (some 2) v6_1) fun v7_2 =>
kv (ldD .one v7_2 h) fun v8_3 =>
cl (F.slices_Clone_Sapi_Msg_api_Msg E) [v8_3] h fun v9_4 h =>
K v9_4 h)
| _ => False

/-- (*estafette/queue.Queue).Next -/
def F.queue_Queue_Next (E : FE) : Spec := fun args h K => match args with
| [a0] =>
kv (binD (.ptr true) .eql true a0 (.pointer none) h) fun v4_0 =>
ifV v4_0 (
K (.int .i64 0) h) (
kv (aNil a0) fun v6_1 =>
kv (fieldAddrD (some 3) v6_1) fun v7_2 =>
kv (ldD .one v7_2 h) fun v8_3 =>
K v8_3 h)
| _ => False

/-- estafette/estafettelaw8.QueueAll -/
def F.estafettelaw8_QueueAll (E : FE) : Spec := fun args h K => match args with
| [a0, a1] =>
cl (F.estafettelaw8_begun E) [] h fun v24_0 h =>
kv (aUn .not v24_0) fun v26_1 =>
ifV v26_1 (
K (.bool false) h) (
cl (F.queue_New E) [a0] h fun v28_2 h =>
cl (F.estafetteref8_New E) [(.int .i64 2), a0] h fun v30_3 h =>
cl (F.queue_Queue_Clone E) [v28_2] h fun v32_4 h =>
cl (F.estafetteref8_Space_Clone E) [v30_3] h fun v34_5 h =>
∃ (Inv6 : Nat → List V → AHeap → Prop) (n6 : Nat), Inv6 n6 [v32_4, v34_5, (.int .i64 0)] h ∧ ∀ (n6 : Nat) (e6 : Nat → V) (h : AHeap), Inv6 n6 [(e6 8), (e6 9), (e6 10)] h →
kv (lenD .slice a1 h) fun v37_7 =>
kv (binD .bad .lss false (e6 10) v37_7 h) fun v38_8 =>
kv (gdV v38_8 true (some (e6 10))) fun v40_9 =>
kv (gdV v38_8 true (binD .bad .lss true v40_9 (.int .i64 90) h)) fun v41_10 =>
kv (pickV v38_8 v41_10 (.bool false)) fun v42_11 =>
ifV v42_11 (
kv (indexAddrD (.slice 6) a1 (e6 10)) fun v47_12 =>
kv (ldD (.agg 6) v47_12 h) fun v48_13 =>
kP (newD none (.agg #[(.int .i64 0), (.string ⟨#[]⟩), (.string ⟨#[]⟩), (.int .i64 0), (.int .i64 0), (.int .i64 0)]) h) fun v11_14 h =>
kH (stD (some 6) v11_14 v48_13 h) fun _ h =>
kv (fieldAddrD (some 0) v11_14) fun v49_15 =>
kv (ldD .one v49_15 h) fun v50_16 =>
∃ K17 : List V → AHeap → Prop, (
kv (binD .bad .eql true v50_16 (.int .i64 0) h) fun v56_18 =>
∃ K19 : List V → AHeap → Prop, (
ifV v56_18 (
K19 [v56_18] h) (
kv (binD .bad .eql true v50_16 (.int .i64 1) h) fun v57_20 =>
K19 [v57_20] h)) ∧ ∀ (e19 : Nat → V) (h : AHeap), K19 [(e19 55)] h →
ifV (e19 55) (
kv (fieldAddrD (some 2) v11_14) fun v60_21 =>
kv (ldD .one v60_21 h) fun v61_22 =>
cl (F.queue_Queue_Send E) [v28_2, v61_22] h fun v62_23 h =>
kv (aExtract v62_23 0) fun v63_24 =>
kv (aExtract v62_23 1) fun v64_25 =>
kv (fieldAddrD (some 2) v11_14) fun v67_26 =>
kv (ldD .one v67_26 h) fun v68_27 =>
cl (F.estafetteref8_Space_Send E) [v30_3, v68_27] h fun v69_28 h =>
kv (aExtract v69_28 0) fun v70_29 =>
kv (aExtract v69_28 1) fun v71_30 =>
kv (binD .bad .neq false v63_24 v70_29 h) fun v74_31 =>
kv (gdV v74_31 false (some v64_25)) fun v76_32 =>
kv (gdV v74_31 false (some v71_30)) fun v77_33 =>
kv (gdV v74_31 false (binD .bool .neq false v76_32 v77_33 h)) fun v78_34 =>
kv (pickV v74_31 (.bool true) v78_34) fun v79_35 =>
ifV v79_35 (
K (.bool false) h) (
K17 [(e6 8), (e6 9)] h)) (
kv (binD .bad .eql true v50_16 (.int .i64 2) h) fun v81_36 =>
∃ K37 : List V → AHeap → Prop, (
ifV v81_36 (
K37 [v81_36] h) (
kv (binD .bad .eql true v50_16 (.int .i64 3) h) fun v82_38 =>
K37 [v82_38] h)) ∧ ∀ (e37 : Nat → V) (h : AHeap), K37 [(e37 80)] h →
ifV (e37 80) (
kv (fieldAddrD (some 5) v11_14) fun v85_39 =>
kv (ldD .one v85_39 h) fun v86_40 =>
kv (fieldAddrD (some 3) v11_14) fun v87_41 =>
kv (ldD .one v87_41 h) fun v88_42 =>
cl (F.queue_Queue_Recv E) [v28_2, v86_40, v88_42] h fun v89_43 h =>
kv (aExtract v89_43 0) fun v90_44 =>
kv (aExtract v89_43 1) fun v91_45 =>
kP (newD none (.agg #[(.int .i64 0), (.string ⟨#[]⟩), (.int .i64 0), (.int .i64 0)]) h) fun v16_46 h =>
kH (stD (some 4) v16_46 v90_44 h) fun _ h =>
kv (fieldAddrD (some 5) v11_14) fun v94_47 =>
kv (ldD .one v94_47 h) fun v95_48 =>
kv (fieldAddrD (some 3) v11_14) fun v96_49 =>
kv (ldD .one v96_49 h) fun v97_50 =>
cl (F.estafetteref8_Space_Recv E) [v30_3, v95_48, v97_50] h fun v98_51 h =>
kv (aExtract v98_51 0) fun v99_52 =>
kv (aExtract v98_51 1) fun v100_53 =>
kP (newD none (.agg #[(.int .i64 0), (.string ⟨#[]⟩), (.int .i64 0), (.int .i64 0)]) h) fun v18_54 h =>
kH (stD (some 4) v18_54 v99_52 h) fun _ h =>
kv (ldD (.agg 4) v16_46 h) fun v101_55 =>
kv (ldD (.agg 4) v18_54 h) fun v102_56 =>
kv (binD (.struct [(0, .int), (1, .string), (2, .int), (3, .int)]) .neq false v101_55 v102_56 h) fun v103_57 =>
kv (gdV v103_57 false (some v91_45)) fun v105_58 =>
kv (gdV v103_57 false (some v100_53)) fun v106_59 =>
kv (gdV v103_57 false (binD .bool .neq false v105_58 v106_59 h)) fun v107_60 =>
kv (pickV v103_57 (.bool true) v107_60) fun v108_61 =>
ifV v108_61 (
K (.bool false) h) (
K17 [(e6 8), (e6 9)] h)) (
kv (binD .bad .eql true v50_16 (.int .i64 4) h) fun v110_62 =>
ifV v110_62 (
kv (fieldAddrD (some 3) v11_14) fun v112_63 =>
kv (ldD .one v112_63 h) fun v113_64 =>
kv (fieldAddrD (some 4) v11_14) fun v114_65 =>
kv (ldD .one v114_65 h) fun v115_66 =>
kv (fieldAddrD (some 5) v11_14) fun v116_67 =>
kv (ldD .one v116_67 h) fun v117_68 =>
kv (fieldAddrD (some 3) v11_14) fun v120_69 =>
kv (ldD .one v120_69 h) fun v121_70 =>
kv (fieldAddrD (some 4) v11_14) fun v122_71 =>
kv (ldD .one v122_71 h) fun v123_72 =>
kv (fieldAddrD (some 5) v11_14) fun v124_73 =>
kv (ldD .one v124_73 h) fun v125_74 =>
cl (F.queue_Queue_Ack E) [v28_2, v113_64, v115_66, v117_68] h fun v118_75 h =>
ldD .one v120_69 h = some v121_70 ∧
ldD .one v122_71 h = some v123_72 ∧
ldD .one v124_73 h = some v125_74 ∧
cl (F.estafetteref8_Space_Ack E) [v30_3, v121_70, v123_72, v125_74] h fun v126_76 h =>
kv (binD .bool .neq false v118_75 v126_76 h) fun v127_77 =>
ifV v127_77 (
K (.bool false) h) (
K17 [(e6 8), (e6 9)] h)) (
kv (binD .bad .eql true v50_16 (.int .i64 5) h) fun v129_78 =>
ifV v129_78 (
cl (F.queue_Queue_Dead E) [v28_2] h fun v132_79 h =>
kv (aExtract v132_79 0) fun v133_80 =>
kv (aExtract v132_79 1) fun v134_81 =>
kP (newD none (.agg #[(.int .i64 0), (.string ⟨#[]⟩), (.int .i64 0), (.int .i64 0)]) h) fun v20_82 h =>
kH (stD (some 4) v20_82 v133_80 h) fun _ h =>
cl (F.estafetteref8_Space_Dead E) [v30_3] h fun v137_83 h =>
kv (aExtract v137_83 0) fun v138_84 =>
kv (aExtract v137_83 1) fun v139_85 =>
kP (newD none (.agg #[(.int .i64 0), (.string ⟨#[]⟩), (.int .i64 0), (.int .i64 0)]) h) fun v22_86 h =>
kH (stD (some 4) v22_86 v138_84 h) fun _ h =>
kv (ldD (.agg 4) v20_82 h) fun v140_87 =>
kv (ldD (.agg 4) v22_86 h) fun v141_88 =>
kv (binD (.struct [(0, .int), (1, .string), (2, .int), (3, .int)]) .neq false v140_87 v141_88 h) fun v142_89 =>
kv (gdV v142_89 false (some v134_81)) fun v144_90 =>
kv (gdV v142_89 false (some v139_85)) fun v145_91 =>
kv (gdV v142_89 false (binD .bool .neq false v144_90 v145_91 h)) fun v146_92 =>
kv (pickV v142_89 (.bool true) v146_92) fun v147_93 =>
ifV v147_93 (
K (.bool false) h) (
K17 [(e6 8), (e6 9)] h)) (
cl (F.queue_Queue_Clone E) [v28_2] h fun v52_94 h =>
cl (F.estafetteref8_Space_Clone E) [v30_3] h fun v54_95 h =>
K17 [v52_94, v54_95] h))))) ∧ ∀ (e17 : Nat → V) (h : AHeap), K17 [(e17 8), (e17 9)] h →
kv (aNil v30_3) fun v151_96 =>
kv (fieldAddrD (some 4) v151_96) fun v152_97 =>
kv (ldD .one v152_97 h) fun v153_98 =>
cl (F.queue_Queue_Items E) [v28_2] h fun v149_99 h =>
ldD .one v152_97 h = some v153_98 ∧
cl (F.estafettelaw8_msgs E) [v149_99, v153_98] h fun v154_100 h =>
kv (aUn .not v154_100) fun v155_101 =>
kv (gdV v155_101 false (some v28_2)) fun v157_102 =>
kv (gdV v155_101 false (some v30_3)) fun v159_103 =>
kv (gdV v155_101 false (aNil v159_103)) fun v160_104 =>
kv (gdV v155_101 false (fieldAddrD (some 5) v160_104)) fun v161_105 =>
kv (gdV v155_101 false (ldD .one v161_105 h)) fun v162_106 =>
gdC v155_101 false h (fun K107 => cl (F.queue_Queue_Lost E) [v157_102] h fun v h => gdV v155_101 false (ldD .one v161_105 h) = some v162_106 ∧
K107 v h) fun v158_108 h =>
gdC v155_101 false h (fun K109 => cl (F.estafettelaw8_msgs E) [v158_108, v162_106] h fun v h => K109 v h) fun v163_110 h =>
kv (gdV v155_101 false (aUn .not v163_110)) fun v164_111 =>
kv (pickV v155_101 (.bool true) v164_111) fun v165_112 =>
kv (gdV v165_112 false (some v28_2)) fun v167_113 =>
kv (gdV v165_112 false (some v30_3)) fun v169_114 =>
kv (gdV v165_112 false (aNil v169_114)) fun v170_115 =>
kv (gdV v165_112 false (fieldAddrD (some 6) v170_115)) fun v171_116 =>
kv (gdV v165_112 false (ldD .one v171_116 h)) fun v172_117 =>
gdC v165_112 false h (fun K118 => cl (F.queue_Queue_Next E) [v167_113] h fun v h => gdV v165_112 false (ldD .one v171_116 h) = some v172_117 ∧
K118 v h) fun v168_119 h =>
kv (gdV v165_112 false (binD .bad .neq false v168_119 v172_117 h)) fun v173_120 =>
kv (pickV v165_112 (.bool true) v173_120) fun v174_121 =>
kv (gdV v174_121 false (some (e17 8))) fun v176_122 =>
kv (gdV v174_121 false (some (e17 9))) fun v178_123 =>
kv (gdV v174_121 false (aNil v178_123)) fun v179_124 =>
kv (gdV v174_121 false (fieldAddrD (some 4) v179_124)) fun v180_125 =>
kv (gdV v174_121 false (ldD .one v180_125 h)) fun v181_126 =>
gdC v174_121 false h (fun K127 => cl (F.queue_Queue_Items E) [v176_122] h fun v h => gdV v174_121 false (ldD .one v180_125 h) = some v181_126 ∧
K127 v h) fun v177_128 h =>
gdC v174_121 false h (fun K129 => cl (F.estafettelaw8_msgs E) [v177_128, v181_126] h fun v h => K129 v h) fun v182_130 h =>
kv (gdV v174_121 false (aUn .not v182_130)) fun v183_131 =>
kv (pickV v174_121 (.bool true) v183_131) fun v184_132 =>
kv (gdV v184_132 false (some (e17 8))) fun v186_133 =>
kv (gdV v184_132 false (some (e17 9))) fun v188_134 =>
kv (gdV v184_132 false (aNil v188_134)) fun v189_135 =>
kv (gdV v184_132 false (fieldAddrD (some 5) v189_135)) fun v190_136 =>
kv (gdV v184_132 false (ldD .one v190_136 h)) fun v191_137 =>
gdC v184_132 false h (fun K138 => cl (F.queue_Queue_Lost E) [v186_133] h fun v h => gdV v184_132 false (ldD .one v190_136 h) = some v191_137 ∧
K138 v h) fun v187_139 h =>
gdC v184_132 false h (fun K140 => cl (F.estafettelaw8_msgs E) [v187_139, v191_137] h fun v h => K140 v h) fun v192_141 h =>
kv (gdV v184_132 false (aUn .not v192_141)) fun v193_142 =>
kv (pickV v184_132 (.bool true) v193_142) fun v194_143 =>
ifV v194_143 (
K (.bool false) h) (
kv (binD .bad .add true (e6 10) (.int .i64 1) h) fun v44_144 =>
∃ m, m < n6 ∧ Inv6 m [(e17 8), (e17 9), v44_144] h)) (
K (.bool true) h))
| _ => False

/-- estafette/estafettelaw8.QueueOnce -/
def F.estafettelaw8_QueueOnce (E : FE) : Spec := fun args h K => match args with
| [a0, a1] =>
cl (F.estafettelaw8_begun E) [] h fun v22_0 h =>
kv (aUn .not v22_0) fun v24_1 =>
ifV v24_1 (
K (.bool false) h) (
cl (F.queue_New E) [a0] h fun v26_2 h =>
kP (makeMapD true none h) fun v27_3 h =>
∃ (Inv4 : Nat → List V → AHeap → Prop) (n4 : Nat), Inv4 n4 [(.int .i64 0), (.int .i64 0)] h ∧ ∀ (n4 : Nat) (e4 : Nat → V) (h : AHeap), Inv4 n4 [(e4 7), (e4 9)] h →
kv (lenD .slice a1 h) fun v30_5 =>
kv (binD .bad .lss false (e4 9) v30_5 h) fun v31_6 =>
kv (gdV v31_6 true (some (e4 9))) fun v33_7 =>
kv (gdV v31_6 true (binD .bad .lss true v33_7 (.int .i64 90) h)) fun v34_8 =>
kv (pickV v31_6 v34_8 (.bool false)) fun v35_9 =>
ifV v35_9 (
kv (indexAddrD (.slice 6) a1 (e4 9)) fun v40_10 =>
kv (ldD (.agg 6) v40_10 h) fun v41_11 =>
kP (newD none (.agg #[(.int .i64 0), (.string ⟨#[]⟩), (.string ⟨#[]⟩), (.int .i64 0), (.int .i64 0), (.int .i64 0)]) h) fun v10_12 h =>
kH (stD (some 6) v10_12 v41_11 h) fun _ h =>
kv (fieldAddrD (some 0) v10_12) fun v42_13 =>
kv (ldD .one v42_13 h) fun v43_14 =>
∃ K15 : List V → AHeap → Prop, (
kv (binD .bad .eql true v43_14 (.int .i64 0) h) fun v45_16 =>
∃ K17 : List V → AHeap → Prop, (
ifV v45_16 (
K17 [v45_16] h) (
kv (binD .bad .eql true v43_14 (.int .i64 1) h) fun v46_18 =>
K17 [v46_18] h)) ∧ ∀ (e17 : Nat → V) (h : AHeap), K17 [(e17 44)] h →
ifV (e17 44) (
cl (F.queue_Queue_Send E) [v26_2, (.string ⟨#[120]⟩)] h fun v49_19 h =>
kv (aExtract v49_19 0) fun v50_20 =>
kv (aExtract v49_19 1) fun v51_21 =>
ifV v51_21 (
kv (binD .bad .add true (e4 7) (.int .i64 1) h) fun v54_22 =>
kv (binD .bad .neq false v50_20 v54_22 h) fun v57_23 =>
ifV v57_23 (
K (.bool false) h) (
K15 [v54_22] h)) (
K15 [(e4 7)] h)) (
kv (binD .bad .eql true v43_14 (.int .i64 2) h) fun v59_24 =>
∃ K25 : List V → AHeap → Prop, (
ifV v59_24 (
K25 [v59_24] h) (
kv (binD .bad .eql true v43_14 (.int .i64 3) h) fun v60_26 =>
K25 [v60_26] h)) ∧ ∀ (e25 : Nat → V) (h : AHeap), K25 [(e25 58)] h →
ifV (e25 58) (
kv (fieldAddrD (some 5) v10_12) fun v62_27 =>
kv (ldD .one v62_27 h) fun v63_28 =>
kv (fieldAddrD (some 3) v10_12) fun v64_29 =>
kv (ldD .one v64_29 h) fun v65_30 =>
cl (F.queue_Queue_Recv E) [v26_2, v63_28, v65_30] h fun v66_31 h =>
K15 [(e4 7)] h) (
kv (binD .bad .eql true v43_14 (.int .i64 4) h) fun v68_32 =>
ifV v68_32 (
kv (fieldAddrD (some 3) v10_12) fun v70_33 =>
kv (ldD .one v70_33 h) fun v71_34 =>
kv (fieldAddrD (some 4) v10_12) fun v72_35 =>
kv (ldD .one v72_35 h) fun v73_36 =>
kv (fieldAddrD (some 5) v10_12) fun v74_37 =>
kv (ldD .one v74_37 h) fun v75_38 =>
cl (F.queue_Queue_Ack E) [v26_2, v71_34, v73_36, v75_38] h fun v76_39 h =>
ifV v76_39 (
kv (fieldAddrD (some 3) v10_12) fun v78_40 =>
kv (ldD .one v78_40 h) fun v79_41 =>
kv (lookupD (some (.int, (some (.int .i64 0)))) v27_3 v79_41 false h) fun v80_42 =>
kv (binD .bad .add true v80_42 (.int .i64 1) h) fun v81_43 =>
kH (mapUpdateD (some (.int, (some (.int .i64 0)))) v27_3 v79_41 v81_43 h) fun _ h =>
K15 [(e4 7)] h) (
K15 [(e4 7)] h)) (
kv (binD .bad .eql true v43_14 (.int .i64 5) h) fun v83_44 =>
ifV v83_44 (
cl (F.queue_Queue_Dead E) [v26_2] h fun v86_45 h =>
kv (aExtract v86_45 0) fun v87_46 =>
kv (aExtract v86_45 1) fun v88_47 =>
kP (newD none (.agg #[(.int .i64 0), (.string ⟨#[]⟩), (.int .i64 0), (.int .i64 0)]) h) fun v13_48 h =>
kH (stD (some 4) v13_48 v87_46 h) fun _ h =>
ifV v88_47 (
kv (fieldAddrD (some 0) v13_48) fun v91_49 =>
kv (ldD .one v91_49 h) fun v92_50 =>
kv (lookupD (some (.int, (some (.int .i64 0)))) v27_3 v92_50 false h) fun v93_51 =>
kv (binD .bad .add true v93_51 (.int .i64 1) h) fun v94_52 =>
kH (mapUpdateD (some (.int, (some (.int .i64 0)))) v27_3 v92_50 v94_52 h) fun _ h =>
K15 [(e4 7)] h) (
K15 [(e4 7)] h)) (
K15 [(e4 7)] h))))) ∧ ∀ (e15 : Nat → V) (h : AHeap), K15 [(e15 7)] h →
cl (F.queue_Queue_Items E) [v26_2] h fun v96_53 h =>
cl (F.queue_Queue_Lost E) [v26_2] h fun v98_54 h =>
kP (buildSliceD (some (1, [(.slice none 0 0)])) 2 [(0, v96_53), (1, v98_54)] h) fun v99_55 h =>
kv (lenD .slice v99_55 h) fun v100_56 =>
∃ (Inv57 : Nat → List V → AHeap → Prop) (n57 : Nat), Inv57 n57 [(.int .i64 0), (.int .i64 0)] h ∧ ∀ (n57 : Nat) (e57 : Nat → V) (h : AHeap), Inv57 n57 [(e57 15), (e57 101)] h →
kv (binD .bad .lss false (e57 101) v100_56 h) fun v102_58 =>
ifV v102_58 (
kv (indexAddrD (.slice 1) v99_55 (e57 101)) fun v103_59 =>
kv (ldD .one v103_59 h) fun v104_60 =>
∃ (Inv61 : Nat → List V → AHeap → Prop) (n61 : Nat), Inv61 n61 [(e57 15), (.int .i64 0), (.int .i64 0)] h ∧ ∀ (n61 : Nat) (e61 : Nat → V) (h : AHeap), Inv61 n61 [(e61 15), (e61 18), (e61 19)] h →
kv (lenD .slice v104_60 h) fun v107_62 =>
kv (binD .bad .lss false (e61 19) v107_62 h) fun v108_63 =>
ifV v108_63 (
kv (indexAddrD (.slice 4) v104_60 (e61 19)) fun v113_64 =>
kv (fieldAddrD (some 0) v113_64) fun v114_65 =>
kv (ldD .one v114_65 h) fun v115_66 =>
kv (binD .bad .lss true v115_66 (.int .i64 1) h) fun v116_67 =>
kv (gdV v116_67 false (some v104_60)) fun v118_68 =>
kv (gdV v116_67 false (some (e61 19))) fun v119_69 =>
kv (gdV v116_67 false (indexAddrD (.slice 4) v118_68 v119_69)) fun v120_70 =>
kv (gdV v116_67 false (fieldAddrD (some 0) v120_70)) fun v121_71 =>
kv (gdV v116_67 false (ldD .one v121_71 h)) fun v122_72 =>
kv (gdV v116_67 false (some (e15 7))) fun v123_73 =>
kv (gdV v116_67 false (binD .bad .gtr false v122_72 v123_73 h)) fun v124_74 =>
kv (pickV v116_67 (.bool true) v124_74) fun v125_75 =>
kv (gdV v125_75 false (some v27_3)) fun v127_76 =>
kv (gdV v125_75 false (some v104_60)) fun v128_77 =>
kv (gdV v125_75 false (some (e61 19))) fun v129_78 =>
kv (gdV v125_75 false (indexAddrD (.slice 4) v128_77 v129_78)) fun v130_79 =>
kv (gdV v125_75 false (fieldAddrD (some 0) v130_79)) fun v131_80 =>
kv (gdV v125_75 false (ldD .one v131_80 h)) fun v132_81 =>
kv (gdV v125_75 false (lookupD (some (.int, (some (.int .i64 0)))) v127_76 v132_81 false h)) fun v133_82 =>
kv (gdV v125_75 false (binD .bad .neq true v133_82 (.int .i64 0) h)) fun v134_83 =>
kv (pickV v125_75 (.bool true) v134_83) fun v135_84 =>
kv (gdV v135_84 false (some v104_60)) fun v137_85 =>
kv (gdV v135_84 false (some (e61 19))) fun v138_86 =>
kv (gdV v135_84 false (indexAddrD (.slice 4) v137_85 v138_86)) fun v139_87 =>
kv (gdV v135_84 false (fieldAddrD (some 2) v139_87)) fun v140_88 =>
kv (gdV v135_84 false (ldD .one v140_88 h)) fun v141_89 =>
kv (gdV v135_84 false (some a0)) fun v142_90 =>
kv (gdV v135_84 false (aMinMax false [v142_90, (.int .i64 9)])) fun v143_91 =>
kv (gdV v135_84 false (aMinMax true [(.int .i64 1), v143_91])) fun v144_92 =>
kv (gdV v135_84 false (binD .bad .gtr false v141_89 v144_92 h)) fun v145_93 =>
kv (pickV v135_84 (.bool true) v145_93) fun v146_94 =>
ifV v146_94 (
K (.bool false) h) (
kv (binD .bad .add true (e61 15) (.int .i64 1) h) fun v148_95 =>
kv (indexAddrD (.slice 4) v104_60 (e61 19)) fun v152_96 =>
kv (fieldAddrD (some 0) v152_96) fun v153_97 =>
kv (ldD .one v153_97 h) fun v154_98 =>
kv (aMinMax true [(e61 18), v154_98]) fun v155_99 =>
kv (binD .bad .add true (e61 19) (.int .i64 1) h) fun v110_100 =>
∃ m, m < n61 ∧ Inv61 m [v148_95, v155_99, v110_100] h)) (
kv (binD .bad .gtr false (e61 18) (e15 7) h) fun v158_101 =>
ifV v158_101 (
K (.bool false) h) (
kv (binD .bad .add true (e57 101) (.int .i64 1) h) fun v159_102 =>
∃ m, m < n57 ∧ Inv57 m [(e61 15), v159_102] h))) (
kP (rangeD .map v27_3 h) fun v161_103 h =>
∃ (Inv104 : Nat → List V → AHeap → Prop) (n104 : Nat), Inv104 n104 [] h ∧ ∀ (n104 : Nat) (e104 : Nat → V) (h : AHeap), Inv104 n104 [] h →
aNext v161_103 false h fun v162_105 h =>
kv (aExtract v162_105 0) fun v163_106 =>
ifV v163_106 (
kV (aEntry v161_103 h) h fun v164_107 h =>
kv (aExtract v164_107 1) fun v165_108 =>
kv (binD .bad .neq true v165_108 (.int .i64 1) h) fun v167_109 =>
ifV v167_109 (
K (.bool false) h) (
∃ m, m < n104 ∧ Inv104 m [] h)) (
kv (lenD .map v27_3 h) fun v170_110 =>
kv (binD .bad .add false (e57 15) v170_110 h) fun v171_111 =>
kv (binD .bad .neq false v171_111 (e15 7) h) fun v173_112 =>
ifV v173_112 (
K (.bool false) h) (
kv (binD .bad .add true (e4 9) (.int .i64 1) h) fun v37_113 =>
∃ m, m < n4 ∧ Inv4 m [(e15 7), v37_113] h)))) (
K (.bool true) h))
| _ => False

/-- estafette/estafettelaw8.QueueFair -/
def F.estafettelaw8_QueueFair (E : FE) : Spec := fun args h K => match args with
| [a0, a1, a2] =>
cl (F.estafettelaw8_begun E) [] h fun v20_0 h =>
kv (aUn .not v20_0) fun v22_1 =>
ifV v22_1 (
K (.bool false) h) (
kv (binD .bad .rem true a0 (.int .i64 70) h) fun v24_2 =>
kv (binD .bad .add true v24_2 (.int .i64 70) h) fun v25_3 =>
kv (binD .bad .rem true v25_3 (.int .i64 70) h) fun v26_4 =>
kv (binD .bad .and true a1 (.int .i64 1048575) h) fun v28_5 =>
kv (binD .bad .and true a2 (.int .i64 255) h) fun v30_6 =>
kv (binD .bad .add true (.int .i64 1) v30_6 h) fun v31_7 =>
cl (F.queue_New E) [(.int .i64 3)] h fun v32_8 h =>
∃ (Inv9 : Nat → List V → AHeap → Prop) (n9 : Nat), Inv9 n9 [(.int .i64 0)] h ∧ ∀ (n9 : Nat) (e9 : Nat → V) (h : AHeap), Inv9 n9 [(e9 9)] h →
kv (binD .bad .lss false (e9 9) v26_4 h) fun v35_10 =>
ifV v35_10 (
cl (F.queue_Queue_Send E) [v32_8, (.string ⟨#[109]⟩)] h fun v40_11 h =>
kv (aExtract v40_11 0) fun v41_12 =>
kv (aExtract v40_11 1) fun v42_13 =>
kv (binD .bad .lss true (e9 9) (.int .i64 64) h) fun v45_14 =>
kv (binD .bool .neq false v42_13 v45_14 h) fun v46_15 =>
kv (gdV v46_15 false (some v42_13)) fun v48_16 =>
kv (gdV v46_15 false (some v48_16)) fun v49_17 =>
kv (gdV v49_17 true (some v41_12)) fun v50_18 =>
kv (gdV v49_17 true (some (e9 9))) fun v51_19 =>
kv (gdV v49_17 true (binD .bad .add true v51_19 (.int .i64 1) h)) fun v52_20 =>
kv (gdV v49_17 true (binD .bad .neq false v50_18 v52_20 h)) fun v53_21 =>
kv (gdV v46_15 false (pickV v49_17 v53_21 (.bool false))) fun v54_22 =>
kv (pickV v46_15 (.bool true) v54_22) fun v55_23 =>
ifV v55_23 (
K (.bool false) h) (
kv (binD .bad .add true (e9 9) (.int .i64 1) h) fun v37_24 =>
∃ m, m < n9 ∧ Inv9 m [v37_24] h)) (
kv (aMinMax false [v26_4, (.int .i64 64)]) fun v57_25 =>
∃ (Inv26 : Nat → List V → AHeap → Prop) (n26 : Nat), Inv26 n26 [(.int .i64 0)] h ∧ ∀ (n26 : Nat) (e26 : Nat → V) (h : AHeap), Inv26 n26 [(e26 13)] h →
kv (binD .bad .lss false (e26 13) v57_25 h) fun v60_27 =>
ifV v60_27 (
cl (F.queue_Queue_Recv E) [v32_8, v28_5, v31_7] h fun v67_28 h =>
kv (aExtract v67_28 0) fun v68_29 =>
kv (aExtract v67_28 1) fun v69_30 =>
kP (newD none (.agg #[(.int .i64 0), (.string ⟨#[]⟩), (.int .i64 0), (.int .i64 0)]) h) fun v14_31 h =>
kH (stD (some 4) v14_31 v68_29 h) fun _ h =>
kv (aUn .not v69_30) fun v71_32 =>
kv (gdV v71_32 false (fieldAddrD (some 0) v14_31)) fun v73_33 =>
kv (gdV v71_32 false (ldD .one v73_33 h)) fun v74_34 =>
kv (gdV v71_32 false (some (e26 13))) fun v75_35 =>
kv (gdV v71_32 false (binD .bad .add true v75_35 (.int .i64 1) h)) fun v76_36 =>
kv (gdV v71_32 false (binD .bad .neq false v74_34 v76_36 h)) fun v77_37 =>
kv (pickV v71_32 (.bool true) v77_37) fun v78_38 =>
kv (gdV v78_38 false (fieldAddrD (some 2) v14_31)) fun v80_39 =>
kv (gdV v78_38 false (ldD .one v80_39 h)) fun v81_40 =>
kv (gdV v78_38 false (binD .bad .neq true v81_40 (.int .i64 1) h)) fun v82_41 =>
kv (pickV v78_38 (.bool true) v82_41) fun v83_42 =>
kv (gdV v83_42 false (fieldAddrD (some 3) v14_31)) fun v85_43 =>
kv (gdV v83_42 false (ldD .one v85_43 h)) fun v86_44 =>
kv (gdV v83_42 false (some v28_5)) fun v87_45 =>
kv (gdV v83_42 false (some v31_7)) fun v88_46 =>
kv (gdV v83_42 false (binD .bad .add false v87_45 v88_46 h)) fun v89_47 =>
kv (gdV v83_42 false (binD .bad .neq false v86_44 v89_47 h)) fun v90_48 =>
kv (pickV v83_42 (.bool true) v90_48) fun v91_49 =>
ifV v91_49 (
K (.bool false) h) (
kv (binD .bad .add true (e26 13) (.int .i64 1) h) fun v62_50 =>
∃ m, m < n26 ∧ Inv26 m [v62_50] h)) (
kv (binD .bad .add false v28_5 v31_7 h) fun v96_51 =>
kv (binD .bad .sub true v96_51 (.int .i64 1) h) fun v97_52 =>
cl (F.queue_Queue_Recv E) [v32_8, v97_52, v31_7] h fun v99_53 h =>
kv (aExtract v99_53 0) fun v100_54 =>
kv (aExtract v99_53 1) fun v101_55 =>
kP (newD none (.agg #[(.int .i64 0), (.string ⟨#[]⟩), (.int .i64 0), (.int .i64 0)]) h) fun v16_56 h =>
kH (stD (some 4) v16_56 v100_54 h) fun _ h =>
kv (binD .bad .add false v28_5 v31_7 h) fun v106_57 =>
cl (F.queue_Queue_Recv E) [v32_8, v106_57, v31_7] h fun v108_58 h =>
kv (aExtract v108_58 0) fun v109_59 =>
kv (aExtract v108_58 1) fun v110_60 =>
kP (newD none (.agg #[(.int .i64 0), (.string ⟨#[]⟩), (.int .i64 0), (.int .i64 0)]) h) fun v18_61 h =>
kH (stD (some 4) v18_61 v109_59 h) fun _ h =>
kv (aUn .not v101_55) fun v112_62 =>
kv (gdV v112_62 true (some v110_60)) fun v114_63 =>
kv (gdV v112_62 true (some v57_25)) fun v115_64 =>
kv (gdV v112_62 true (binD .bad .gtr true v115_64 (.int .i64 0) h)) fun v116_65 =>
kv (gdV v112_62 true (binD .bool .eql false v114_63 v116_65 h)) fun v117_66 =>
kv (pickV v112_62 v117_66 (.bool false)) fun v118_67 =>
kv (gdV v118_67 true (some v110_60)) fun v120_68 =>
kv (gdV v118_67 true (aUn .not v120_68)) fun v121_69 =>
kv (gdV v118_67 true (some v121_69)) fun v122_70 =>
kv (gdV v122_70 false (fieldAddrD (some 0) v18_61)) fun v123_71 =>
kv (gdV v122_70 false (ldD .one v123_71 h)) fun v124_72 =>
kv (gdV v122_70 false (binD .bad .eql true v124_72 (.int .i64 1) h)) fun v125_73 =>
kv (gdV v122_70 false (some v125_73)) fun v126_74 =>
kv (gdV v126_74 true (fieldAddrD (some 2) v18_61)) fun v127_75 =>
kv (gdV v126_74 true (ldD .one v127_75 h)) fun v128_76 =>
kv (gdV v126_74 true (binD .bad .eql true v128_76 (.int .i64 2) h)) fun v129_77 =>
kv (gdV v122_70 false (pickV v126_74 v129_77 (.bool false))) fun v130_78 =>
kv (gdV v118_67 true (pickV v122_70 (.bool true) v130_78)) fun v131_79 =>
kv (pickV v118_67 v131_79 (.bool false)) fun v132_80 =>
K v132_80 h)))
| _ => False

/-- estafette/topic.New -/
def F.topic_New (E : FE) : Spec := fun args h K => match args with
| [] =>
kP (makeMapD true none h) fun v1_0 h =>
kv (buildD (.struct [(.slice none 0 0), (.map none)] [(0, 1), (1, 1)]) [(1, v1_0)]) fun v2_1 =>
kP (newD none v2_1 h) fun v3_2 h =>
K v3_2 h
| _ => False

/-- (*estafette/topic.Topic).Len -/
def F.topic_Topic_Len (E : FE) : Spec := fun args h K => match args with
| [a0] =>
kv (binD (.ptr true) .eql true a0 (.pointer none) h) fun v4_0 =>
ifV v4_0 (
K (.int .i64 0) h) (
kv (aNil a0) fun v6_1 =>
kv (fieldAddrD (some 0) v6_1) fun v7_2 =>
kv (ldD .one v7_2 h) fun v8_3 =>
kv (lenD .slice v8_3 h) fun v9_4 =>
K v9_4 h)
| _ => False

/-- (*estafette/topic.Topic).Pub -/
def F.topic_Topic_Pub (E : FE) : Spec := fun args h K => match args with
| [a0, a1] =>
kv (binD (.ptr true) .eql true a0 (.pointer none) h) fun v7_0 =>
kv (gdV v7_0 false (some a0)) fun v9_1 =>
kv (gdV v7_0 false (aNil v9_1)) fun v10_2 =>
kv (gdV v7_0 false (fieldAddrD (some 0) v10_2)) fun v11_3 =>
kv (gdV v7_0 false (ldD .one v11_3 h)) fun v12_4 =>
kv (gdV v7_0 false (lenD .slice v12_4 h)) fun v13_5 =>
kv (gdV v7_0 false (binD .bad .geq true v13_5 (.int .i64 64) h)) fun v14_6 =>
kv (pickV v7_0 (.bool true) v14_6) fun v15_7 =>
ifV v15_7 (
K (.tuple #[(.int .i64 0), (.bool false)]) h) (
kv (aNil a0) fun v18_8 =>
kv (fieldAddrD (some 0) v18_8) fun v19_9 =>
kv (ldD .one v19_9 h) fun v20_10 =>
kP (buildSliceD (some (1, [(.string ⟨#[]⟩)])) 1 [(0, a1)] h) fun v22_11 h =>
kP (appendD (some (1, 16, [(.string ⟨#[]⟩)])) v20_10 v22_11 h) fun v23_12 h =>
kv (aNil a0) fun v24_13 =>
kv (fieldAddrD (some 0) v24_13) fun v25_14 =>
kH (stD (some 1) v25_14 v23_12 h) fun _ h =>
cl (F.topic_Topic_Len E) [a0] h fun v27_15 h =>
kv (binD .bad .sub true v27_15 (.int .i64 1) h) fun v28_16 =>
K (.tuple #[v28_16, (.bool true)]) h)
| _ => False

/-- (*estafette/topic.Topic).At -/
def F.topic_Topic_At (E : FE) : Spec := fun args h K => match args with
| [a0, a1] =>
kv (binD (.ptr true) .eql true a0 (.pointer none) h) fun v6_0 =>
ifV v6_0 (
K (.int .i64 0) h) (
kv (aNil a0) fun v8_1 =>
kv (fieldAddrD (some 1) v8_1) fun v9_2 =>
kv (ldD .one v9_2 h) fun v10_3 =>
kv (lookupD (some (.string, (some (.int .i64 0)))) v10_3 a1 false h) fun v12_4 =>
K v12_4 h)
| _ => False

/-- (*estafette/topic.Topic).Seek -/
def F.topic_Topic_Seek (E : FE) : Spec := fun args h K => match args with
| [a0, a1, a2, a3] =>
kv (binD (.ptr true) .eql true a0 (.pointer none) h) fun v12_0 =>
kv (gdV v12_0 false (some a0)) fun v14_1 =>
kv (gdV v12_0 false (some a1)) fun v15_2 =>
gdC v12_0 false h (fun K3 => cl (F.topic_Topic_At E) [v14_1, v15_2] h fun v h => K3 v h) fun v16_4 h =>
kv (gdV v12_0 false (some a2)) fun v17_5 =>
kv (gdV v12_0 false (binD .bad .neq false v16_4 v17_5 h)) fun v18_6 =>
kv (pickV v12_0 (.bool true) v18_6) fun v19_7 =>
kv (gdV v19_7 false (some a3)) fun v21_8 =>
kv (gdV v19_7 false (some a2)) fun v22_9 =>
kv (gdV v19_7 false (binD .bad .lss false v21_8 v22_9 h)) fun v23_10 =>
kv (pickV v19_7 (.bool true) v23_10) fun v24_11 =>
kv (gdV v24_11 false (some a3)) fun v26_12 =>
kv (gdV v24_11 false (some a0)) fun v27_13 =>
gdC v24_11 false h (fun K14 => cl (F.topic_Topic_Len E) [v27_13] h fun v h => K14 v h) fun v28_15 h =>
kv (gdV v24_11 false (binD .bad .gtr false v26_12 v28_15 h)) fun v29_16 =>
kv (pickV v24_11 (.bool true) v29_16) fun v30_17 =>
ifV v30_17 (
K (.bool false) h) (
kv (aNil a0) fun v33_18 =>
kv (fieldAddrD (some 1) v33_18) fun v34_19 =>
kv (ldD .one v34_19 h) fun v35_20 =>
kv (lookupD (some (.string, (some (.int .i64 0)))) v35_20 a1 true h) fun v37_21 =>
kv (aExtract v37_21 0) fun v38_22 =>
kv (aExtract v37_21 1) fun v39_23 =>
kv (aUn .not v39_23) fun v41_24 =>
kv (gdV v41_24 true (some a0)) fun v43_25 =>
kv (gdV v41_24 true (aNil v43_25)) fun v44_26 =>
kv (gdV v41_24 true (fieldAddrD (some 1) v44_26)) fun v45_27 =>
kv (gdV v41_24 true (ldD .one v45_27 h)) fun v46_28 =>
kv (gdV v41_24 true (lenD .map v46_28 h)) fun v47_29 =>
kv (gdV v41_24 true (binD .bad .geq true v47_29 (.int .i64 16) h)) fun v48_30 =>
kv (pickV v41_24 v48_30 (.bool false)) fun v49_31 =>
ifV v49_31 (
K (.bool false) h) (
kv (aNil a0) fun v51_32 =>
kv (fieldAddrD (some 1) v51_32) fun v52_33 =>
kv (ldD .one v52_33 h) fun v53_34 =>
kH (mapUpdateD (some (.string, (some (.int .i64 0)))) v53_34 a1 a3 h) fun _ h =>
K (.bool true) h))
| _ => False

/-- slices.Clone[[]string,string] -/
def F.slices_Clone_Sstring_string (E : FE) : Spec := fun args h K => match args with
| [a0] =>
kv (binD .slice .eql true a0 (.slice none 0 0) h) fun v4_0 =>
ifV v4_0 (
K (.slice none 0 0) h) (
kP (buildSliceD (some (1, [(.string ⟨#[]⟩)])) 0 [] h) fun v5_1 h =>
kP (appendD (some (1, 16, [(.string ⟨#[]⟩)])) v5_1 a0 h) fun v7_2 h =>
K v7_2 h)
| _ => False

/-- (*estafette/topic.Topic).Fetch -/
def F.topic_Topic_Fetch (E : FE) : Spec := fun args h K => match args with
| [a0, a1, a2] =>
cl (F.topic_Topic_At E) [a0, a1] h fun v11_0 h =>
kv (aMinMax true [a2, (.int .i64 0)]) fun v13_1 =>
cl (F.topic_Topic_Len E) [a0] h fun v15_2 h =>
kv (binD .bad .sub false v15_2 v11_0 h) fun v17_3 =>
kv (aMinMax false [v13_1, v17_3]) fun v18_4 =>
kv (binD .bad .leq true v18_4 (.int .i64 0) h) fun v20_5 =>
ifV v20_5 (
K (.slice none 0 0) h) (
kv (aNil a0) fun v22_6 =>
kv (fieldAddrD (some 0) v22_6) fun v23_7 =>
kv (ldD .one v23_7 h) fun v24_8 =>
kv (binD .bad .add false v11_0 v18_4 h) fun v28_9 =>
kv (sliceD (.slice 1) v24_8 (some v11_0) (some v28_9) none h) fun v29_10 =>
cl (F.slices_Clone_Sstring_string E) [v29_10] h fun v30_11 h =>
K v30_11 h)
| _ => False

/-- estafette/estafettelaw8.TopicRise -/
def F.estafettelaw8_TopicRise (E : FE) : Spec := fun args h K => match args with
| [a0, a1] =>
cl (F.estafettelaw8_begun E) [] h fun v13_0 h =>
kv (aUn .not v13_0) fun v15_1 =>
ifV v15_1 (
K (.bool false) h) (
kv (binD .bad .rem true a0 (.int .i64 64) h) fun v17_2 =>
kv (binD .bad .add true v17_2 (.int .i64 64) h) fun v18_3 =>
kv (binD .bad .rem true v18_3 (.int .i64 64) h) fun v19_4 =>
cl (F.topic_New E) [] h fun v20_5 h =>
∃ (Inv6 : Nat → List V → AHeap → Prop) (n6 : Nat), Inv6 n6 [(.int .i64 0)] h ∧ ∀ (n6 : Nat) (e6 : Nat → V) (h : AHeap), Inv6 n6 [(e6 7)] h →
kv (binD .bad .lss false (e6 7) v19_4 h) fun v23_7 =>
ifV v23_7 (
cl (F.topic_Topic_Pub E) [v20_5, (.string ⟨#[120]⟩)] h fun v27_8 h =>
kv (binD .bad .add true (e6 7) (.int .i64 1) h) fun v25_9 =>
∃ m, m < n6 ∧ Inv6 m [v25_9] h) (
∃ (Inv10 : Nat → List V → AHeap → Prop) (n10 : Nat), Inv10 n10 [(.int .i64 0), (.int .i64 0)] h ∧ ∀ (n10 : Nat) (e10 : Nat → V) (h : AHeap), Inv10 n10 [(e10 8), (e10 9)] h →
kv (lenD .slice a1 h) fun v30_11 =>
kv (binD .bad .lss false (e10 9) v30_11 h) fun v31_12 =>
kv (gdV v31_12 true (some (e10 9))) fun v33_13 =>
kv (gdV v31_12 true (binD .bad .lss true v33_13 (.int .i64 50) h)) fun v34_14 =>
kv (pickV v31_12 v34_14 (.bool false)) fun v35_15 =>
ifV v35_15 (
kv (indexAddrD (.slice 6) a1 (e10 9)) fun v40_16 =>
kv (fieldAddrD (some 3) v40_16) fun v41_17 =>
kv (ldD .one v41_17 h) fun v42_18 =>
kv (binD .bad .and true v42_18 (.int .i64 31) h) fun v43_19 =>
kv (indexAddrD (.slice 6) a1 (e10 9)) fun v46_20 =>
kv (fieldAddrD (some 4) v46_20) fun v47_21 =>
kv (ldD .one v47_21 h) fun v48_22 =>
kv (binD .bad .and true v48_22 (.int .i64 63) h) fun v49_23 =>
cl (F.topic_Topic_Seek E) [v20_5, (.string ⟨#[103]⟩), v43_19, v49_23] h fun v53_24 h =>
kv (binD .bad .eql false v43_19 (e10 8) h) fun v57_25 =>
kv (gdV v57_25 true (some v49_23)) fun v59_26 =>
kv (gdV v57_25 true (some v43_19)) fun v60_27 =>
kv (gdV v57_25 true (binD .bad .geq false v59_26 v60_27 h)) fun v61_28 =>
kv (pickV v57_25 v61_28 (.bool false)) fun v62_29 =>
kv (gdV v62_29 true (some v49_23)) fun v64_30 =>
kv (gdV v62_29 true (some v19_4)) fun v65_31 =>
kv (gdV v62_29 true (binD .bad .leq false v64_30 v65_31 h)) fun v66_32 =>
kv (pickV v62_29 v66_32 (.bool false)) fun v67_33 =>
kv (binD .bool .neq false v53_24 v67_33 h) fun v68_34 =>
ifV v68_34 (
K (.bool false) h) (
∃ K35 : List V → AHeap → Prop, (
ifV v53_24 (
K35 [v49_23] h) (
K35 [(e10 8)] h)) ∧ ∀ (e35 : Nat → V) (h : AHeap), K35 [(e35 8)] h →
cl (F.topic_Topic_At E) [v20_5, (.string ⟨#[103]⟩)] h fun v72_36 h =>
kv (binD .bad .neq false v72_36 (e35 8) h) fun v74_37 =>
kv (gdV v74_37 false (some v20_5)) fun v76_38 =>
gdC v74_37 false h (fun K39 => cl (F.topic_Topic_At E) [v76_38, (.string ⟨#[104]⟩)] h fun v h => K39 v h) fun v77_40 h =>
kv (gdV v74_37 false (binD .bad .neq true v77_40 (.int .i64 0) h)) fun v78_41 =>
kv (pickV v74_37 (.bool true) v78_41) fun v79_42 =>
kv (gdV v79_42 false (some v20_5)) fun v81_43 =>
gdC v79_42 false h (fun K44 => cl (F.topic_Topic_Fetch E) [v81_43, (.string ⟨#[103]⟩), (.int .i64 100)] h fun v h => K44 v h) fun v82_45 h =>
kv (gdV v79_42 false (lenD .slice v82_45 h)) fun v83_46 =>
kv (gdV v79_42 false (some v19_4)) fun v84_47 =>
kv (gdV v79_42 false (some (e35 8))) fun v85_48 =>
kv (gdV v79_42 false (binD .bad .sub false v84_47 v85_48 h)) fun v86_49 =>
kv (gdV v79_42 false (binD .bad .neq false v83_46 v86_49 h)) fun v87_50 =>
kv (pickV v79_42 (.bool true) v87_50) fun v88_51 =>
ifV v88_51 (
K (.bool false) h) (
kv (binD .bad .add true (e10 9) (.int .i64 1) h) fun v37_52 =>
∃ m, m < n10 ∧ Inv10 m [(e35 8), v37_52] h))) (
K (.bool true) h)))
| _ => False

/-- estafette/space.New -/
def F.space_New (E : FE) : Spec := fun args h K => match args with
| [a0, a1] =>
kv (buildD (.struct [(.int .i64 0), (.pointer none), (.pointer none), (.pointer none)] [(0, 1), (1, 1), (2, 1), (3, 1)]) [(0, a0)]) fun v7_0 =>
kP (newD none v7_0 h) fun v8_1 h =>
kv (binD .bad .eql true a0 (.int .i64 1) h) fun v11_2 =>
ifV v11_2 (
cl (F.table_New E) [] h fun v13_3 h =>
kv (aNil v8_1) fun v14_4 =>
kv (fieldAddrD (some 1) v14_4) fun v15_5 =>
kH (stD (some 1) v15_5 v13_3 h) fun _ h =>
K v8_1 h) (
kv (binD .bad .eql true a0 (.int .i64 2) h) fun v17_6 =>
ifV v17_6 (
cl (F.queue_New E) [a1] h fun v20_7 h =>
kv (aNil v8_1) fun v21_8 =>
kv (fieldAddrD (some 2) v21_8) fun v22_9 =>
kH (stD (some 1) v22_9 v20_7 h) fun _ h =>
K v8_1 h) (
kv (binD .bad .eql true a0 (.int .i64 3) h) fun v24_10 =>
ifV v24_10 (
cl (F.topic_New E) [] h fun v26_11 h =>
kv (aNil v8_1) fun v27_12 =>
kv (fieldAddrD (some 3) v27_12) fun v28_13 =>
kH (stD (some 1) v28_13 v26_11 h) fun _ h =>
K v8_1 h) (
K (.pointer none) h)))
| _ => False

/-- maps.Clone[map[string]int64,string,int64] -/
def F.maps_Clone_map_string_int64_string_int64 (E : FE) : Spec := fun args h K => match args with
| [a0] =>
kv (binD .map .eql true a0 (.map none) h) fun v4_0 =>
ifV v4_0 (
K (.map none) h) (
iface 106 a0 h fun v6_1 h =>
cl (F.maps_clone E) [v6_1] h fun v7_2 h =>
kv (assertD true v7_2 106 false) fun v8_3 =>
K v8_3 h)
| _ => False

/-- (*estafette/topic.Topic).Clone -/
def F.topic_Topic_Clone (E : FE) : Spec := fun args h K => match args with
| [a0] =>
kv (binD (.ptr true) .eql true a0 (.pointer none) h) fun v4_0 =>
ifV v4_0 (
K (.pointer none) h) (
kv (aNil a0) fun v6_1 =>
kv (fieldAddrD (some 0) v6_1) fun v7_2 =>
kv (ldD .one v7_2 h) fun v8_3 =>
kv (aNil a0) fun v11_4 =>
kv (fieldAddrD (some 1) v11_4) fun v12_5 =>
kv (ldD .one v12_5 h) fun v13_6 =>
cl (F.slices_Clone_Sstring_string E) [v8_3] h fun v9_7 h =>
ldD .one v12_5 h = some v13_6 ∧
cl (F.maps_Clone_map_string_int64_string_int64 E) [v13_6] h fun v14_8 h =>
kv (buildD (.struct [(.slice none 0 0), (.map none)] [(0, 1), (1, 1)]) [(0, v9_7), (1, v14_8)]) fun v15_9 =>
kP (newD none v15_9 h) fun v16_10 h =>
K v16_10 h)
| _ => False

/-- (*estafette/space.Space).Clone -/
def F.space_Space_Clone (E : FE) : Spec := fun args h K => match args with
| [a0] =>
kv (binD (.ptr true) .eql true a0 (.pointer none) h) fun v4_0 =>
ifV v4_0 (
K (.pointer none) h) (
kv (aNil a0) fun v6_1 =>
kv (fieldAddrD (some 0) v6_1) fun v7_2 =>
kv (ldD .one v7_2 h) fun v8_3 =>
kv (aNil a0) fun v10_4 =>
kv (fieldAddrD (some 1) v10_4) fun v11_5 =>
kv (ldD .one v11_5 h) fun v12_6 =>
kv (aNil a0) fun v15_7 =>
kv (fieldAddrD (some 2) v15_7) fun v16_8 =>
kv (ldD .one v16_8 h) fun v17_9 =>
kv (aNil a0) fun v20_10 =>
kv (fieldAddrD (some 3) v20_10) fun v21_11 =>
kv (ldD .one v21_11 h) fun v22_12 =>
cl (F.table_Table_Clone E) [v12_6] h fun v13_13 h =>
ldD .one v7_2 h = some v8_3 ∧
ldD .one v16_8 h = some v17_9 ∧
ldD .one v21_11 h = some v22_12 ∧
cl (F.queue_Queue_Clone E) [v17_9] h fun v18_14 h =>
ldD .one v7_2 h = some v8_3 ∧
ldD .one v21_11 h = some v22_12 ∧
cl (F.topic_Topic_Clone E) [v22_12] h fun v23_15 h =>
ldD .one v7_2 h = some v8_3 ∧
kv (buildD (.struct [(.int .i64 0), (.pointer none), (.pointer none), (.pointer none)] [(0, 1), (1, 1), (2, 1), (3, 1)]) [(0, v8_3), (1, v13_13), (2, v18_14), (3, v23_15)]) fun v24_16 =>
kP (newD none v24_16 h) fun v25_17 h =>
K v25_17 h)
| _ => False

/-- (*estafette/space.Space).table -/
def F.space_Space_table (E : FE) : Spec := fun args h K => match args with
| [a0, a1] =>
kP (newD none a1 h) fun v3_0 h =>
kv (fieldAddrD (some 0) v3_0) fun v7_1 =>
kv (ldD .one v7_1 h) fun v8_2 =>
kv (binD .bad .eql true v8_2 (.int .i64 4) h) fun v10_3 =>
ifV v10_3 (
kv (aNil a0) fun v12_4 =>
kv (fieldAddrD (some 1) v12_4) fun v13_5 =>
kv (ldD .one v13_5 h) fun v14_6 =>
kv (fieldAddrD (some 2) v3_0) fun v15_7 =>
kv (ldD .one v15_7 h) fun v16_8 =>
kv (fieldAddrD (some 3) v3_0) fun v17_9 =>
kv (ldD .one v17_9 h) fun v18_10 =>
cl (F.table_Table_Put E) [v14_6, v16_8, v18_10] h fun v19_11 h =>
K (.string ⟨#[]⟩) h) (
kv (binD .bad .eql true v8_2 (.int .i64 5) h) fun v21_12 =>
ifV v21_12 (
kv (aNil a0) fun v23_13 =>
kv (fieldAddrD (some 1) v23_13) fun v24_14 =>
kv (ldD .one v24_14 h) fun v25_15 =>
kv (fieldAddrD (some 2) v3_0) fun v26_16 =>
kv (ldD .one v26_16 h) fun v27_17 =>
cl (F.table_Table_Del E) [v25_15, v27_17] h fun v28_18 h =>
ifV v28_18 (
K (.string ⟨#[61]⟩) h) (
K (.string ⟨#[45]⟩) h)) (
kv (aNil a0) fun v31_19 =>
kv (fieldAddrD (some 1) v31_19) fun v32_20 =>
kv (ldD .one v32_20 h) fun v33_21 =>
kv (fieldAddrD (some 2) v3_0) fun v34_22 =>
kv (ldD .one v34_22 h) fun v35_23 =>
cl (F.table_Table_Get E) [v33_21, v35_23] h fun v36_24 h =>
kv (aExtract v36_24 0) fun v37_25 =>
kv (aExtract v36_24 1) fun v38_26 =>
ifV v38_26 (
kv (binD .bad .add true (.string ⟨#[61]⟩) v37_25 h) fun v41_27 =>
K v41_27 h) (
K (.string ⟨#[45]⟩) h)))
| _ => False

/-- estafette/space.text -/
def F.space_text (E : FE) : Spec := fun args h K => match args with
| [a0] =>
cl (F.strconv_FormatInt E) [a0, (.int .i64 10)] h fun v4_0 h =>
K v4_0 h
| _ => False

/-- estafette/space.number -/
def F.space_number (E : FE) : Spec := fun args h K => match args with
| [a0] =>
kv (binD .bad .eql true a0 (.string ⟨#[]⟩) h) fun v7_0 =>
kv (gdV v7_0 false (some a0)) fun v9_1 =>
kv (gdV v7_0 false (lenD .str v9_1 h)) fun v10_2 =>
kv (gdV v7_0 false (binD .bad .gtr true v10_2 (.int .i64 12) h)) fun v11_3 =>
kv (pickV v7_0 (.bool true) v11_3) fun v12_4 =>
kv (gdV v12_4 false (some a0)) fun v14_5 =>
gdC v12_4 false h (fun K6 => cl (F.strings_Trim E) [v14_5, (.string ⟨#[48, 49, 50, 51, 52, 53, 54, 55, 56, 57]⟩)] h fun v h => K6 v h) fun v15_7 h =>
kv (gdV v12_4 false (binD .bad .neq true v15_7 (.string ⟨#[]⟩) h)) fun v16_8 =>
kv (pickV v12_4 (.bool true) v16_8) fun v17_9 =>
kv (gdV v17_9 false (some a0)) fun v19_10 =>
kv (gdV v17_9 false (indexD .str v19_10 (.int .i64 0))) fun v20_11 =>
kv (gdV v17_9 false (binD .bad .eql true v20_11 (.int .u8 48) h)) fun v21_12 =>
kv (gdV v17_9 false (some v21_12)) fun v22_13 =>
kv (gdV v22_13 true (some a0)) fun v23_14 =>
kv (gdV v22_13 true (lenD .str v23_14 h)) fun v24_15 =>
kv (gdV v22_13 true (binD .bad .gtr true v24_15 (.int .i64 1) h)) fun v25_16 =>
kv (gdV v17_9 false (pickV v22_13 v25_16 (.bool false))) fun v26_17 =>
kv (pickV v17_9 (.bool true) v26_17) fun v27_18 =>
ifV v27_18 (
K (.tuple #[(.int .i64 0), (.bool false)]) h) (
cl (F.strconv_ParseInt E) [a0, (.int .i64 10), (.int .i64 64)] h fun v30_19 h =>
kv (aExtract v30_19 0) fun v31_20 =>
kv (aExtract v30_19 1) fun v32_21 =>
kv (binD .iface .eql true v32_21 .nilIface h) fun v35_22 =>
K (.tuple #[v31_20, v35_22]) h)
| _ => False

/-- (*estafette/space.Space).queue -/
def F.space_Space_queue (E : FE) : Spec := fun args h K => match args with
| [a0, a1, a2] =>
kP (newD none a1 h) fun v4_0 h =>
kv (fieldAddrD (some 0) v4_0) fun v16_1 =>
kv (ldD .one v16_1 h) fun v17_2 =>
kv (binD .bad .eql true v17_2 (.int .i64 6) h) fun v19_3 =>
ifV v19_3 (
kv (aNil a0) fun v22_4 =>
kv (fieldAddrD (some 2) v22_4) fun v23_5 =>
kv (ldD .one v23_5 h) fun v24_6 =>
kv (fieldAddrD (some 3) v4_0) fun v25_7 =>
kv (ldD .one v25_7 h) fun v26_8 =>
cl (F.queue_Queue_Send E) [v24_6, v26_8] h fun v27_9 h =>
kv (aExtract v27_9 0) fun v28_10 =>
kv (aExtract v27_9 1) fun v29_11 =>
kv (aUn .not v29_11) fun v31_12 =>
ifV v31_12 (
K (.tuple #[(.string ⟨#[]⟩), (.int .i64 6)]) h) (
cl (F.space_text E) [v28_10] h fun v33_13 h =>
K (.tuple #[v33_13, (.int .i64 0)]) h)) (
kv (binD .bad .eql true v17_2 (.int .i64 7) h) fun v35_14 =>
ifV v35_14 (
kv (aNil a0) fun v38_15 =>
kv (fieldAddrD (some 2) v38_15) fun v39_16 =>
kv (ldD .one v39_16 h) fun v40_17 =>
kv (fieldAddrD (some 4) v4_0) fun v42_18 =>
kv (ldD .one v42_18 h) fun v43_19 =>
(cl (F.queue_Queue_Recv E) [v40_17, a2, v43_19] h fun v44_20 h =>
kv (aExtract v44_20 0) fun v45_21 =>
kv (aExtract v44_20 1) fun v46_22 =>
kP (newD none (.agg #[(.int .i64 0), (.string ⟨#[]⟩), (.int .i64 0), (.int .i64 0)]) h) fun v10_23 h =>
ldD .one v39_16 h = some v40_17 ∧
ldD .one v42_18 h = some v43_19 ∧
kH (stD (some 4) v10_23 v45_21 h) fun _ h =>
ifV v46_22 (
kv (fieldAddrD (some 0) v10_23) fun v48_24 =>
kv (ldD .one v48_24 h) fun v49_25 =>
kv (fieldAddrD (some 2) v10_23) fun v52_26 =>
kv (ldD .one v52_26 h) fun v53_27 =>
kv (fieldAddrD (some 1) v10_23) fun v57_28 =>
kv (ldD .one v57_28 h) fun v58_29 =>
cl (F.space_text E) [v49_25] h fun v50_30 h =>
ldD .one v52_26 h = some v53_27 ∧
ldD .one v57_28 h = some v58_29 ∧
kv (binD .bad .add true v50_30 (.string ⟨#[32]⟩) h) fun v51_31 =>
cl (F.space_text E) [v53_27] h fun v54_32 h =>
ldD .one v57_28 h = some v58_29 ∧
kv (binD .bad .add false v51_31 v54_32 h) fun v55_33 =>
kv (binD .bad .add true v55_33 (.string ⟨#[32]⟩) h) fun v56_34 =>
kv (binD .bad .add false v56_34 v58_29 h) fun v59_35 =>
K (.tuple #[v59_35, (.int .i64 0)]) h) (
K (.tuple #[(.string ⟨#[]⟩), (.int .i64 0)]) h)) ∧
(kP (newD none (.agg #[(.int .i64 0), (.string ⟨#[]⟩), (.int .i64 0), (.int .i64 0)]) h) fun v10_36 h =>
ldD .one v39_16 h = some v40_17 ∧
ldD .one v42_18 h = some v43_19 ∧
cl (F.queue_Queue_Recv E) [v40_17, a2, v43_19] h fun v44_37 h =>
kv (aExtract v44_37 0) fun v45_38 =>
kv (aExtract v44_37 1) fun v46_39 =>
kH (stD (some 4) v10_36 v45_38 h) fun _ h =>
ifV v46_39 (
kv (fieldAddrD (some 0) v10_36) fun v48_40 =>
kv (ldD .one v48_40 h) fun v49_41 =>
kv (fieldAddrD (some 2) v10_36) fun v52_42 =>
kv (ldD .one v52_42 h) fun v53_43 =>
kv (fieldAddrD (some 1) v10_36) fun v57_44 =>
kv (ldD .one v57_44 h) fun v58_45 =>
cl (F.space_text E) [v49_41] h fun v50_46 h =>
ldD .one v52_42 h = some v53_43 ∧
ldD .one v57_44 h = some v58_45 ∧
kv (binD .bad .add true v50_46 (.string ⟨#[32]⟩) h) fun v51_47 =>
cl (F.space_text E) [v53_43] h fun v54_48 h =>
ldD .one v57_44 h = some v58_45 ∧
kv (binD .bad .add false v51_47 v54_48 h) fun v55_49 =>
kv (binD .bad .add true v55_49 (.string ⟨#[32]⟩) h) fun v56_50 =>
kv (binD .bad .add false v56_50 v58_45 h) fun v59_51 =>
K (.tuple #[v59_51, (.int .i64 0)]) h) (
K (.tuple #[(.string ⟨#[]⟩), (.int .i64 0)]) h))) (
kv (binD .bad .eql true v17_2 (.int .i64 8) h) fun v61_52 =>
ifV v61_52 (
kv (fieldAddrD (some 2) v4_0) fun v63_53 =>
kv (ldD .one v63_53 h) fun v64_54 =>
cl (F.space_number E) [v64_54] h fun v65_55 h =>
kv (aExtract v65_55 0) fun v66_56 =>
kv (aExtract v65_55 1) fun v67_57 =>
kv (aUn .not v67_57) fun v69_58 =>
ifV v69_58 (
K (.tuple #[(.string ⟨#[]⟩), (.int .i64 1)]) h) (
kv (aNil a0) fun v71_59 =>
kv (fieldAddrD (some 2) v71_59) fun v72_60 =>
kv (ldD .one v72_60 h) fun v73_61 =>
kv (fieldAddrD (some 4) v4_0) fun v74_62 =>
kv (ldD .one v74_62 h) fun v75_63 =>
cl (F.queue_Queue_Ack E) [v73_61, v75_63, v66_56, a2] h fun v78_64 h =>
kv (aUn .not v78_64) fun v79_65 =>
ifV v79_65 (
K (.tuple #[(.string ⟨#[]⟩), (.int .i64 3)]) h) (
K (.tuple #[(.string ⟨#[]⟩), (.int .i64 0)]) h))) (
kv (binD .bad .eql true v17_2 (.int .i64 9) h) fun v81_66 =>
ifV v81_66 (
kv (aNil a0) fun v84_67 =>
kv (fieldAddrD (some 2) v84_67) fun v85_68 =>
kv (ldD .one v85_68 h) fun v86_69 =>
cl (F.queue_Queue_Dead E) [v86_69] h fun v87_70 h =>
kv (aExtract v87_70 0) fun v88_71 =>
kv (aExtract v87_70 1) fun v89_72 =>
kP (newD none (.agg #[(.int .i64 0), (.string ⟨#[]⟩), (.int .i64 0), (.int .i64 0)]) h) fun v14_73 h =>
kH (stD (some 4) v14_73 v88_71 h) fun _ h =>
ifV v89_72 (
kv (fieldAddrD (some 0) v14_73) fun v91_74 =>
kv (ldD .one v91_74 h) fun v92_75 =>
kv (fieldAddrD (some 1) v14_73) fun v95_76 =>
kv (ldD .one v95_76 h) fun v96_77 =>
cl (F.space_text E) [v92_75] h fun v93_78 h =>
ldD .one v95_76 h = some v96_77 ∧
kv (binD .bad .add true v93_78 (.string ⟨#[32]⟩) h) fun v94_79 =>
kv (binD .bad .add false v94_79 v96_77 h) fun v97_80 =>
K (.tuple #[v97_80, (.int .i64 0)]) h) (
K (.tuple #[(.string ⟨#[]⟩), (.int .i64 0)]) h)) (
K (.tuple #[(.string ⟨#[]⟩), (.int .i64 0)]) h))))
| _ => False

/-- (*estafette/space.Space).topic -/
def F.space_Space_topic (E : FE) : Spec := fun args h K => match args with
| [a0, a1] =>
kP (newD none a1 h) fun v3_0 h =>
kv (fieldAddrD (some 0) v3_0) fun v14_1 =>
kv (ldD .one v14_1 h) fun v15_2 =>
kv (binD .bad .eql true v15_2 (.int .i64 10) h) fun v17_3 =>
ifV v17_3 (
kv (aNil a0) fun v20_4 =>
kv (fieldAddrD (some 3) v20_4) fun v21_5 =>
kv (ldD .one v21_5 h) fun v22_6 =>
kv (fieldAddrD (some 3) v3_0) fun v23_7 =>
kv (ldD .one v23_7 h) fun v24_8 =>
cl (F.topic_Topic_Pub E) [v22_6, v24_8] h fun v25_9 h =>
kv (aExtract v25_9 0) fun v26_10 =>
kv (aExtract v25_9 1) fun v27_11 =>
kv (aUn .not v27_11) fun v29_12 =>
ifV v29_12 (
K (.tuple #[(.string ⟨#[]⟩), (.int .i64 6)]) h) (
cl (F.space_text E) [v26_10] h fun v31_13 h =>
K (.tuple #[v31_13, (.int .i64 0)]) h)) (
kv (binD .bad .eql true v15_2 (.int .i64 11) h) fun v33_14 =>
ifV v33_14 (
kv (aNil a0) fun v35_15 =>
kv (fieldAddrD (some 3) v35_15) fun v36_16 =>
kv (ldD .one v36_16 h) fun v37_17 =>
kv (fieldAddrD (some 2) v3_0) fun v38_18 =>
kv (ldD .one v38_18 h) fun v39_19 =>
kv (fieldAddrD (some 4) v3_0) fun v40_20 =>
kv (ldD .one v40_20 h) fun v41_21 =>
cl (F.topic_Topic_Fetch E) [v37_17, v39_19, v41_21] h fun v42_22 h =>
kv (lenD .slice v42_22 h) fun v43_23 =>
∃ K24 : List V → AHeap → Prop, (
∃ (Inv25 : Nat → List V → AHeap → Prop) (n25 : Nat), Inv25 n25 [(.string ⟨#[]⟩), (.int .i64 0)] h ∧ ∀ (n25 : Nat) (e25 : Nat → V) (h : AHeap), Inv25 n25 [(e25 8), (e25 44)] h →
kv (binD .bad .lss false (e25 44) v43_23 h) fun v45_26 =>
ifV v45_26 (
kv (indexAddrD (.slice 1) v42_22 (e25 44)) fun v46_27 =>
kv (ldD .one v46_27 h) fun v47_28 =>
kv (lenD .str v47_28 h) fun v49_29 =>
cl (F.space_text E) [v49_29] h fun v50_30 h =>
kv (binD .bad .add true v50_30 (.string ⟨#[58]⟩) h) fun v51_31 =>
kv (binD .bad .add false v51_31 v47_28 h) fun v53_32 =>
kv (lenD .str (e25 8) h) fun v55_33 =>
kv (lenD .str v53_32 h) fun v57_34 =>
kv (binD .bad .add false v55_33 v57_34 h) fun v58_35 =>
kv (binD .bad .gtr true v58_35 (.int .i64 200) h) fun v59_36 =>
ifV v59_36 (
K24 [(e25 8)] h) (
kv (binD .bad .add false (e25 8) v53_32 h) fun v62_37 =>
kv (binD .bad .add true (e25 44) (.int .i64 1) h) fun v63_38 =>
∃ m, m < n25 ∧ Inv25 m [v62_37, v63_38] h)) (
K24 [(e25 8)] h)) ∧ ∀ (e24 : Nat → V) (h : AHeap), K24 [(e24 8)] h →
K (.tuple #[(e24 8), (.int .i64 0)]) h) (
kv (fieldAddrD (some 3) v3_0) fun v66_39 =>
kv (ldD .one v66_39 h) fun v67_40 =>
cl (F.space_number E) [v67_40] h fun v68_41 h =>
kv (aExtract v68_41 0) fun v69_42 =>
kv (aExtract v68_41 1) fun v70_43 =>
kv (aUn .not v70_43) fun v72_44 =>
ifV v72_44 (
K (.tuple #[(.string ⟨#[]⟩), (.int .i64 1)]) h) (
kv (aNil a0) fun v74_45 =>
kv (fieldAddrD (some 3) v74_45) fun v75_46 =>
kv (ldD .one v75_46 h) fun v76_47 =>
kv (fieldAddrD (some 2) v3_0) fun v77_48 =>
kv (ldD .one v77_48 h) fun v78_49 =>
kv (fieldAddrD (some 4) v3_0) fun v80_50 =>
kv (ldD .one v80_50 h) fun v81_51 =>
cl (F.topic_Topic_Seek E) [v76_47, v78_49, v69_42, v81_51] h fun v82_52 h =>
kv (aUn .not v82_52) fun v83_53 =>
ifV v83_53 (
K (.tuple #[(.string ⟨#[]⟩), (.int .i64 3)]) h) (
K (.tuple #[(.string ⟨#[]⟩), (.int .i64 0)]) h))))
| _ => False

/-- (*estafette/space.Space).Do -/
def F.space_Space_Do (E : FE) : Spec := fun args h K => match args with
| [a0, a1, a2] =>
kP (newD none a1 h) fun v4_0 h =>
kv (binD (.ptr true) .eql true a0 (.pointer none) h) fun v10_1 =>
ifV v10_1 (
K (.tuple #[(.string ⟨#[]⟩), (.int .i64 3)]) h) (
kv (aNil a0) fun v13_2 =>
kv (fieldAddrD (some 0) v13_2) fun v14_3 =>
kv (ldD .one v14_3 h) fun v15_4 =>
kv (binD .bad .eql true v15_4 (.int .i64 1) h) fun v16_5 =>
kv (gdV v16_5 true (fieldAddrD (some 0) v4_0)) fun v18_6 =>
kv (gdV v16_5 true (ldD .one v18_6 h)) fun v19_7 =>
kv (gdV v16_5 true (binD .bad .geq true v19_7 (.int .i64 3) h)) fun v20_8 =>
kv (pickV v16_5 v20_8 (.bool false)) fun v21_9 =>
kv (gdV v21_9 true (fieldAddrD (some 0) v4_0)) fun v23_10 =>
kv (gdV v21_9 true (ldD .one v23_10 h)) fun v24_11 =>
kv (gdV v21_9 true (binD .bad .leq true v24_11 (.int .i64 5) h)) fun v25_12 =>
kv (pickV v21_9 v25_12 (.bool false)) fun v26_13 =>
ifV v26_13 (
kv (ldD (.agg 5) v4_0 h) fun v28_14 =>
cl (F.space_Space_table E) [a0, v28_14] h fun v29_15 h =>
K (.tuple #[v29_15, (.int .i64 0)]) h) (
kv (aNil a0) fun v32_16 =>
kv (fieldAddrD (some 0) v32_16) fun v33_17 =>
kv (ldD .one v33_17 h) fun v34_18 =>
kv (binD .bad .eql true v34_18 (.int .i64 2) h) fun v35_19 =>
kv (gdV v35_19 true (fieldAddrD (some 0) v4_0)) fun v37_20 =>
kv (gdV v35_19 true (ldD .one v37_20 h)) fun v38_21 =>
kv (gdV v35_19 true (binD .bad .geq true v38_21 (.int .i64 6) h)) fun v39_22 =>
kv (pickV v35_19 v39_22 (.bool false)) fun v40_23 =>
kv (gdV v40_23 true (fieldAddrD (some 0) v4_0)) fun v42_24 =>
kv (gdV v40_23 true (ldD .one v42_24 h)) fun v43_25 =>
kv (gdV v40_23 true (binD .bad .leq true v43_25 (.int .i64 9) h)) fun v44_26 =>
kv (pickV v40_23 v44_26 (.bool false)) fun v45_27 =>
ifV v45_27 (
kv (ldD (.agg 5) v4_0 h) fun v47_28 =>
cl (F.space_Space_queue E) [a0, v47_28, a2] h fun v49_29 h =>
kv (aExtract v49_29 0) fun v50_30 =>
kv (aExtract v49_29 1) fun v51_31 =>
K (.tuple #[v50_30, v51_31]) h) (
kv (aNil a0) fun v54_32 =>
kv (fieldAddrD (some 0) v54_32) fun v55_33 =>
kv (ldD .one v55_33 h) fun v56_34 =>
kv (binD .bad .eql true v56_34 (.int .i64 3) h) fun v57_35 =>
kv (gdV v57_35 true (fieldAddrD (some 0) v4_0)) fun v59_36 =>
kv (gdV v57_35 true (ldD .one v59_36 h)) fun v60_37 =>
kv (gdV v57_35 true (binD .bad .geq true v60_37 (.int .i64 10) h)) fun v61_38 =>
kv (pickV v57_35 v61_38 (.bool false)) fun v62_39 =>
kv (gdV v62_39 true (fieldAddrD (some 0) v4_0)) fun v64_40 =>
kv (gdV v62_39 true (ldD .one v64_40 h)) fun v65_41 =>
kv (gdV v62_39 true (binD .bad .leq true v65_41 (.int .i64 12) h)) fun v66_42 =>
kv (pickV v62_39 v66_42 (.bool false)) fun v67_43 =>
ifV v67_43 (
kv (ldD (.agg 5) v4_0 h) fun v69_44 =>
cl (F.space_Space_topic E) [a0, v69_44] h fun v70_45 h =>
kv (aExtract v70_45 0) fun v71_46 =>
kv (aExtract v70_45 1) fun v72_47 =>
K (.tuple #[v71_46, v72_47]) h) (
K (.tuple #[(.string ⟨#[]⟩), (.int .i64 1)]) h))))
| _ => False

/-- estafette/estafetteref8.had -/
def F.estafetteref8_had (E : FE) : Spec := fun args h K => match args with
| [a0, a1] =>
kv (aUn .not a1) fun v6_0 =>
ifV v6_0 (
K (.string ⟨#[45]⟩) h) (
kv (binD .bad .add true (.string ⟨#[61]⟩) a0 h) fun v8_1 =>
K v8_1 h)
| _ => False

/-- estafette/estafetteref8.Dec -/
def Fr.estafetteref8_Dec : Nat → FE → Spec
| 0, _ => fun _ _ _ => False
| fuel + 1, E => fun args h K => match args with
| [a0] =>
kv (binD .bad .lss true a0 (.int .i64 10) h) fun v4_0 =>
ifV v4_0 (
kv (binD .bad .add true (.int .i64 48) a0 h) fun v6_1 =>
kv ((convD (.int .u8) v6_1 h).map (·.1)) fun v7_2 =>
kP (buildSliceD (some (1, [(.int .u8 0)])) 1 [(0, v7_2)] h) fun v8_3 h =>
kv ((convD .toStr v8_3 h).map (·.1)) fun v9_4 =>
K v9_4 h) (
kv (binD .bad .quo true a0 (.int .i64 10) h) fun v11_5 =>
cl (Fr.estafetteref8_Dec fuel E) [v11_5] h fun v12_6 h =>
kv (binD .bad .rem true a0 (.int .i64 10) h) fun v14_7 =>
cl (Fr.estafetteref8_Dec fuel E) [v14_7] h fun v15_8 h =>
kv (binD .bad .add false v12_6 v15_8 h) fun v16_9 =>
K v16_9 h)
| _ => False

def F.estafetteref8_Dec (E : FE) : Spec := fun args h K => ∃ n, Fr.estafetteref8_Dec n E args h K

/-- estafette/estafetteref8.full -/
def F.estafetteref8_full (E : FE) : Spec := fun args h K => match args with
| [a0, a1] =>
kv (aUn .not a1) fun v7_0 =>
ifV v7_0 (
K (.tuple #[(.string ⟨#[]⟩), (.int .i64 6)]) h) (
cl (F.estafetteref8_Dec E) [a0] h fun v9_1 h =>
K (.tuple #[v9_1, (.int .i64 0)]) h)
| _ => False

/-- estafette/estafetteref8.Number -/
def F.estafetteref8_Number (E : FE) : Spec := fun args h K => match args with
| [a0] =>
∃ (Inv0 : Nat → List V → AHeap → Prop) (n0 : Nat), Inv0 n0 [(.int .i64 0), (.int .i64 0)] h ∧ ∀ (n0 : Nat) (e0 : Nat → V) (h : AHeap), Inv0 n0 [(e0 4), (e0 5)] h →
kv (lenD .str a0 h) fun v8_1 =>
kv (binD .bad .lss false (e0 5) v8_1 h) fun v9_2 =>
kv (gdV v9_2 true (some (e0 5))) fun v11_3 =>
kv (gdV v9_2 true (binD .bad .lss true v11_3 (.int .i64 13) h)) fun v12_4 =>
kv (pickV v9_2 v12_4 (.bool false)) fun v13_5 =>
ifV v13_5 (
kv (indexD .str a0 (e0 5)) fun v18_6 =>
kv (binD .bad .lss true v18_6 (.int .u8 48) h) fun v19_7 =>
kv (gdV v19_7 false (some a0)) fun v21_8 =>
kv (gdV v19_7 false (some (e0 5))) fun v22_9 =>
kv (gdV v19_7 false (indexD .str v21_8 v22_9)) fun v23_10 =>
kv (gdV v19_7 false (binD .bad .gtr true v23_10 (.int .u8 57) h)) fun v24_11 =>
kv (pickV v19_7 (.bool true) v24_11) fun v25_12 =>
ifV v25_12 (
K (.tuple #[(.int .i64 0), (.bool false)]) h) (
kv (binD .bad .mul true (e0 4) (.int .i64 10) h) fun v27_13 =>
kv (indexD .str a0 (e0 5)) fun v30_14 =>
kv (binD .bad .sub true v30_14 (.int .u8 48) h) fun v31_15 =>
kv ((convD (.int .i64) v31_15 h).map (·.1)) fun v32_16 =>
kv (binD .bad .add false v27_13 v32_16 h) fun v33_17 =>
kv (binD .bad .add true (e0 5) (.int .i64 1) h) fun v15_18 =>
∃ m, m < n0 ∧ Inv0 m [v33_17, v15_18] h)) (
kv (lenD .str a0 h) fun v36_19 =>
kv (binD .bad .geq true v36_19 (.int .i64 1) h) fun v37_20 =>
kv (gdV v37_20 true (some a0)) fun v39_21 =>
kv (gdV v37_20 true (lenD .str v39_21 h)) fun v40_22 =>
kv (gdV v37_20 true (binD .bad .leq true v40_22 (.int .i64 12) h)) fun v41_23 =>
kv (pickV v37_20 v41_23 (.bool false)) fun v42_24 =>
kv (gdV v42_24 true (some a0)) fun v44_25 =>
kv (gdV v42_24 true (binD .bad .eql true v44_25 (.string ⟨#[48]⟩) h)) fun v45_26 =>
kv (gdV v42_24 true (some v45_26)) fun v46_27 =>
kv (gdV v46_27 false (some a0)) fun v47_28 =>
kv (gdV v46_27 false (indexD .str v47_28 (.int .i64 0))) fun v48_29 =>
kv (gdV v46_27 false (binD .bad .neq true v48_29 (.int .u8 48) h)) fun v49_30 =>
kv (gdV v42_24 true (pickV v46_27 (.bool true) v49_30)) fun v50_31 =>
kv (pickV v42_24 v50_31 (.bool false)) fun v51_32 =>
K (.tuple #[(e0 4), v51_32]) h)
| _ => False

/-- estafette/estafetteref8.none -/
def F.estafetteref8_none (E : FE) : Spec := fun args h K => match args with
| [a0] =>
kv (aUn .not a0) fun v5_0 =>
ifV v5_0 (
K (.tuple #[(.string ⟨#[]⟩), (.int .i64 3)]) h) (
K (.tuple #[(.string ⟨#[]⟩), (.int .i64 0)]) h)
| _ => False

/-- (*estafette/estafetteref8.Space).Pub -/
def F.estafetteref8_Space_Pub (E : FE) : Spec := fun args h K => match args with
| [a0, a1] =>
kv (aNil a0) fun v7_0 =>
kv (fieldAddrD (some 4) v7_0) fun v8_1 =>
kv (ldD .one v8_1 h) fun v9_2 =>
kv (lenD .slice v9_2 h) fun v10_3 =>
kv (binD .bad .geq true v10_3 (.int .i64 64) h) fun v11_4 =>
ifV v11_4 (
K (.tuple #[(.int .i64 0), (.bool false)]) h) (
kv (aNil a0) fun v14_5 =>
kv (fieldAddrD (some 4) v14_5) fun v15_6 =>
kv (ldD .one v15_6 h) fun v16_7 =>
kv (buildD (.struct [(.int .i64 0), (.string ⟨#[]⟩), (.int .i64 0), (.int .i64 0)] [(0, 1), (1, 1), (2, 1), (3, 1)]) [(1, a1)]) fun v18_8 =>
kP (buildSliceD (some (4, [(.int .i64 0), (.string ⟨#[]⟩), (.int .i64 0), (.int .i64 0)])) 1 [(0, v18_8)] h) fun v19_9 h =>
kP (appendD (some (4, 40, [(.int .i64 0), (.string ⟨#[]⟩), (.int .i64 0), (.int .i64 0)])) v16_7 v19_9 h) fun v20_10 h =>
kv (aNil a0) fun v21_11 =>
kv (fieldAddrD (some 4) v21_11) fun v22_12 =>
kH (stD (some 1) v22_12 v20_10 h) fun _ h =>
kv (aNil a0) fun v24_13 =>
kv (fieldAddrD (some 4) v24_13) fun v25_14 =>
kv (ldD .one v25_14 h) fun v26_15 =>
kv (lenD .slice v26_15 h) fun v27_16 =>
kv (binD .bad .sub true v27_16 (.int .i64 1) h) fun v28_17 =>
K (.tuple #[v28_17, (.bool true)]) h)
| _ => False

/-- (*estafette/estafetteref8.Space).Group -/
def F.estafetteref8_Space_Group (E : FE) : Spec := fun args h K => match args with
| [a0, a1] =>
cl (F.estafetteref8_Space_at E) [a0, a1] h fun v10_0 h =>
kv (aExtract v10_0 0) fun v11_1 =>
kv (aExtract v10_0 1) fun v12_2 =>
kv (aUn .not v12_2) fun v14_3 =>
ifV v14_3 (
K (.int .i64 0) h) (
kv (aNil a0) fun v16_4 =>
kv (fieldAddrD (some 2) v16_4) fun v17_5 =>
kv (ldD .one v17_5 h) fun v18_6 =>
kv (indexAddrD (.slice 3) v18_6 v11_1) fun v20_7 =>
kv (fieldAddrD (some 2) v20_7) fun v21_8 =>
kv (ldD .one v21_8 h) fun v22_9 =>
K v22_9 h)
| _ => False

/-- (*estafette/estafetteref8.Space).Fetch -/
def F.estafetteref8_Space_Fetch (E : FE) : Spec := fun args h K => match args with
| [a0, a1, a2] =>
cl (F.estafetteref8_Space_Group E) [a0, a1] h fun v11_0 h =>
∃ (Inv1 : Nat → List V → AHeap → Prop) (n1 : Nat), Inv1 n1 [(.slice none 0 0), v11_0] h ∧ ∀ (n1 : Nat) (e1 : Nat → V) (h : AHeap), Inv1 n1 [(e1 7), (e1 8)] h →
kv (aNil a0) fun v14_2 =>
kv (fieldAddrD (some 4) v14_2) fun v15_3 =>
kv (ldD .one v15_3 h) fun v16_4 =>
kv (lenD .slice v16_4 h) fun v17_5 =>
kv (binD .bad .lss false (e1 8) v17_5 h) fun v18_6 =>
kv (gdV v18_6 true (some (e1 7))) fun v20_7 =>
kv (gdV v18_6 true (lenD .slice v20_7 h)) fun v21_8 =>
kv (gdV v18_6 true (some a2)) fun v22_9 =>
kv (gdV v18_6 true (binD .bad .lss false v21_8 v22_9 h)) fun v23_10 =>
kv (pickV v18_6 v23_10 (.bool false)) fun v24_11 =>
ifV v24_11 (
kv (aNil a0) fun v29_12 =>
kv (fieldAddrD (some 4) v29_12) fun v30_13 =>
kv (ldD .one v30_13 h) fun v31_14 =>
kv (indexAddrD (.slice 4) v31_14 (e1 8)) fun v33_15 =>
kv (fieldAddrD (some 1) v33_15) fun v34_16 =>
kv (ldD .one v34_16 h) fun v35_17 =>
kP (buildSliceD (some (1, [(.string ⟨#[]⟩)])) 1 [(0, v35_17)] h) fun v36_18 h =>
kP (appendD (some (1, 16, [(.string ⟨#[]⟩)])) (e1 7) v36_18 h) fun v37_19 h =>
kv (binD .bad .add true (e1 8) (.int .i64 1) h) fun v26_20 =>
∃ m, m < n1 ∧ Inv1 m [v37_19, v26_20] h) (
K (e1 7) h)
| _ => False

/-- (*estafette/estafetteref8.Space).Seek -/
def F.estafetteref8_Space_Seek (E : FE) : Spec := fun args h K => match args with
| [a0, a1, a2, a3] =>
cl (F.estafetteref8_Space_at E) [a0, a1] h fun v14_0 h =>
kv (aExtract v14_0 0) fun v15_1 =>
kv (aExtract v14_0 1) fun v16_2 =>
cl (F.estafetteref8_Space_Group E) [a0, a1] h fun v19_3 h =>
kv (binD .bad .neq false v19_3 a2 h) fun v21_4 =>
kv (gdV v21_4 false (some a3)) fun v23_5 =>
kv (gdV v21_4 false (some a2)) fun v24_6 =>
kv (gdV v21_4 false (binD .bad .lss false v23_5 v24_6 h)) fun v25_7 =>
kv (pickV v21_4 (.bool true) v25_7) fun v26_8 =>
kv (gdV v26_8 false (some a3)) fun v28_9 =>
kv (gdV v26_8 false (some a0)) fun v29_10 =>
kv (gdV v26_8 false (aNil v29_10)) fun v30_11 =>
kv (gdV v26_8 false (fieldAddrD (some 4) v30_11)) fun v31_12 =>
kv (gdV v26_8 false (ldD .one v31_12 h)) fun v32_13 =>
kv (gdV v26_8 false (lenD .slice v32_13 h)) fun v33_14 =>
kv (gdV v26_8 false (binD .bad .gtr false v28_9 v33_14 h)) fun v34_15 =>
kv (pickV v26_8 (.bool true) v34_15) fun v35_16 =>
kv (gdV v35_16 false (some v16_2)) fun v37_17 =>
kv (gdV v35_16 false (aUn .not v37_17)) fun v38_18 =>
kv (gdV v35_16 false (some v38_18)) fun v39_19 =>
kv (gdV v39_19 true (some a0)) fun v40_20 =>
kv (gdV v39_19 true (aNil v40_20)) fun v41_21 =>
kv (gdV v39_19 true (fieldAddrD (some 2) v41_21)) fun v42_22 =>
kv (gdV v39_19 true (ldD .one v42_22 h)) fun v43_23 =>
kv (gdV v39_19 true (lenD .slice v43_23 h)) fun v44_24 =>
kv (gdV v39_19 true (binD .bad .geq true v44_24 (.int .i64 16) h)) fun v45_25 =>
kv (gdV v35_16 false (pickV v39_19 v45_25 (.bool false))) fun v46_26 =>
kv (pickV v35_16 (.bool true) v46_26) fun v47_27 =>
ifV v47_27 (
K (.bool false) h) (
kv (buildD (.struct [(.string ⟨#[]⟩), (.string ⟨#[]⟩), (.int .i64 0)] [(0, 1), (1, 1), (2, 1)]) [(0, a1), (2, a3)]) fun v51_28 =>
cl (F.estafetteref8_Space_put E) [a0, v51_28] h fun v52_29 h =>
K (.bool true) h)
| _ => False

/-- (*estafette/estafetteref8.Space).Do -/
def F.estafetteref8_Space_Do (E : FE) : Spec := fun args h K => match args with
| [a0, a1, a2] =>
kP (newD none a1 h) fun v4_0 h =>
kv (aNil a0) fun v24_1 =>
kv (fieldAddrD (some 1) v24_1) fun v25_2 =>
kv (ldD .one v25_2 h) fun v26_3 =>
kv (binD .bad .eql true v26_3 (.int .i64 1) h) fun v27_4 =>
kv (gdV v27_4 true (fieldAddrD (some 0) v4_0)) fun v29_5 =>
kv (gdV v27_4 true (ldD .one v29_5 h)) fun v30_6 =>
kv (gdV v27_4 true (binD .bad .eql true v30_6 (.int .i64 3) h)) fun v31_7 =>
kv (pickV v27_4 v31_7 (.bool false)) fun v32_8 =>
ifV v32_8 (
kv (fieldAddrD (some 2) v4_0) fun v35_9 =>
kv (ldD .one v35_9 h) fun v36_10 =>
cl (F.estafetteref8_Space_Get E) [a0, v36_10] h fun v37_11 h =>
kv (aExtract v37_11 0) fun v38_12 =>
kv (aExtract v37_11 1) fun v39_13 =>
cl (F.estafetteref8_had E) [v38_12, v39_13] h fun v42_14 h =>
K (.tuple #[v42_14, (.int .i64 0)]) h) (
kv (aNil a0) fun v45_15 =>
kv (fieldAddrD (some 1) v45_15) fun v46_16 =>
kv (ldD .one v46_16 h) fun v47_17 =>
kv (binD .bad .eql true v47_17 (.int .i64 1) h) fun v48_18 =>
kv (gdV v48_18 true (fieldAddrD (some 0) v4_0)) fun v50_19 =>
kv (gdV v48_18 true (ldD .one v50_19 h)) fun v51_20 =>
kv (gdV v48_18 true (binD .bad .eql true v51_20 (.int .i64 4) h)) fun v52_21 =>
kv (pickV v48_18 v52_21 (.bool false)) fun v53_22 =>
ifV v53_22 (
kv (fieldAddrD (some 2) v4_0) fun v55_23 =>
kv (ldD .one v55_23 h) fun v56_24 =>
kv (fieldAddrD (some 3) v4_0) fun v57_25 =>
kv (ldD .one v57_25 h) fun v58_26 =>
cl (F.estafetteref8_Space_Put E) [a0, v56_24, v58_26] h fun v59_27 h =>
K (.tuple #[(.string ⟨#[]⟩), (.int .i64 0)]) h) (
kv (aNil a0) fun v62_28 =>
kv (fieldAddrD (some 1) v62_28) fun v63_29 =>
kv (ldD .one v63_29 h) fun v64_30 =>
kv (binD .bad .eql true v64_30 (.int .i64 1) h) fun v65_31 =>
kv (gdV v65_31 true (fieldAddrD (some 0) v4_0)) fun v67_32 =>
kv (gdV v65_31 true (ldD .one v67_32 h)) fun v68_33 =>
kv (gdV v65_31 true (binD .bad .eql true v68_33 (.int .i64 5) h)) fun v69_34 =>
kv (pickV v65_31 v69_34 (.bool false)) fun v70_35 =>
ifV v70_35 (
kv (fieldAddrD (some 2) v4_0) fun v72_36 =>
kv (ldD .one v72_36 h) fun v73_37 =>
cl (F.estafetteref8_Space_Del E) [a0, v73_37] h fun v74_38 h =>
cl (F.estafetteref8_had E) [(.string ⟨#[]⟩), v74_38] h fun v75_39 h =>
K (.tuple #[v75_39, (.int .i64 0)]) h) (
kv (aNil a0) fun v78_40 =>
kv (fieldAddrD (some 1) v78_40) fun v79_41 =>
kv (ldD .one v79_41 h) fun v80_42 =>
kv (binD .bad .eql true v80_42 (.int .i64 2) h) fun v81_43 =>
kv (gdV v81_43 true (fieldAddrD (some 0) v4_0)) fun v83_44 =>
kv (gdV v81_43 true (ldD .one v83_44 h)) fun v84_45 =>
kv (gdV v81_43 true (binD .bad .eql true v84_45 (.int .i64 6) h)) fun v85_46 =>
kv (pickV v81_43 v85_46 (.bool false)) fun v86_47 =>
ifV v86_47 (
kv (fieldAddrD (some 3) v4_0) fun v88_48 =>
kv (ldD .one v88_48 h) fun v89_49 =>
cl (F.estafetteref8_Space_Send E) [a0, v89_49] h fun v90_50 h =>
kv (aExtract v90_50 0) fun v91_51 =>
kv (aExtract v90_50 1) fun v92_52 =>
cl (F.estafetteref8_full E) [v91_51, v92_52] h fun v93_53 h =>
kv (aExtract v93_53 0) fun v94_54 =>
kv (aExtract v93_53 1) fun v95_55 =>
K (.tuple #[v94_54, v95_55]) h) (
kv (aNil a0) fun v98_56 =>
kv (fieldAddrD (some 1) v98_56) fun v99_57 =>
kv (ldD .one v99_57 h) fun v100_58 =>
kv (binD .bad .eql true v100_58 (.int .i64 2) h) fun v101_59 =>
kv (gdV v101_59 true (fieldAddrD (some 0) v4_0)) fun v103_60 =>
kv (gdV v101_59 true (ldD .one v103_60 h)) fun v104_61 =>
kv (gdV v101_59 true (binD .bad .eql true v104_61 (.int .i64 7) h)) fun v105_62 =>
kv (pickV v101_59 v105_62 (.bool false)) fun v106_63 =>
ifV v106_63 (
kv (fieldAddrD (some 4) v4_0) fun v110_64 =>
kv (ldD .one v110_64 h) fun v111_65 =>
cl (F.estafetteref8_Space_Recv E) [a0, a2, v111_65] h fun v112_66 h =>
kv (aExtract v112_66 0) fun v113_67 =>
kv (aExtract v112_66 1) fun v114_68 =>
kP (newD none (.agg #[(.int .i64 0), (.string ⟨#[]⟩), (.int .i64 0), (.int .i64 0)]) h) fun v10_69 h =>
kH (stD (some 4) v10_69 v113_67 h) fun _ h =>
kv (aUn .not v114_68) fun v116_70 =>
ifV v116_70 (
K (.tuple #[(.string ⟨#[]⟩), (.int .i64 0)]) h) (
kv (fieldAddrD (some 0) v10_69) fun v117_71 =>
kv (ldD .one v117_71 h) fun v118_72 =>
kv (fieldAddrD (some 2) v10_69) fun v121_73 =>
kv (ldD .one v121_73 h) fun v122_74 =>
kv (fieldAddrD (some 1) v10_69) fun v126_75 =>
kv (ldD .one v126_75 h) fun v127_76 =>
cl (F.estafetteref8_Dec E) [v118_72] h fun v119_77 h =>
ldD .one v121_73 h = some v122_74 ∧
ldD .one v126_75 h = some v127_76 ∧
kv (binD .bad .add true v119_77 (.string ⟨#[32]⟩) h) fun v120_78 =>
cl (F.estafetteref8_Dec E) [v122_74] h fun v123_79 h =>
ldD .one v126_75 h = some v127_76 ∧
kv (binD .bad .add false v120_78 v123_79 h) fun v124_80 =>
kv (binD .bad .add true v124_80 (.string ⟨#[32]⟩) h) fun v125_81 =>
kv (binD .bad .add false v125_81 v127_76 h) fun v128_82 =>
K (.tuple #[v128_82, (.int .i64 0)]) h)) (
kv (aNil a0) fun v131_83 =>
kv (fieldAddrD (some 1) v131_83) fun v132_84 =>
kv (ldD .one v132_84 h) fun v133_85 =>
kv (binD .bad .eql true v133_85 (.int .i64 2) h) fun v134_86 =>
kv (gdV v134_86 true (fieldAddrD (some 0) v4_0)) fun v136_87 =>
kv (gdV v134_86 true (ldD .one v136_87 h)) fun v137_88 =>
kv (gdV v134_86 true (binD .bad .eql true v137_88 (.int .i64 8) h)) fun v138_89 =>
kv (pickV v134_86 v138_89 (.bool false)) fun v139_90 =>
ifV v139_90 (
kv (fieldAddrD (some 2) v4_0) fun v141_91 =>
kv (ldD .one v141_91 h) fun v142_92 =>
cl (F.estafetteref8_Number E) [v142_92] h fun v143_93 h =>
kv (aExtract v143_93 0) fun v144_94 =>
kv (aExtract v143_93 1) fun v145_95 =>
kv (aUn .not v145_95) fun v147_96 =>
ifV v147_96 (
K (.tuple #[(.string ⟨#[]⟩), (.int .i64 1)]) h) (
kv (fieldAddrD (some 4) v4_0) fun v149_97 =>
kv (ldD .one v149_97 h) fun v150_98 =>
cl (F.estafetteref8_Space_Ack E) [a0, v150_98, v144_94, a2] h fun v153_99 h =>
cl (F.estafetteref8_none E) [v153_99] h fun v154_100 h =>
kv (aExtract v154_100 0) fun v155_101 =>
kv (aExtract v154_100 1) fun v156_102 =>
K (.tuple #[v155_101, v156_102]) h)) (
kv (aNil a0) fun v159_103 =>
kv (fieldAddrD (some 1) v159_103) fun v160_104 =>
kv (ldD .one v160_104 h) fun v161_105 =>
kv (binD .bad .eql true v161_105 (.int .i64 2) h) fun v162_106 =>
kv (gdV v162_106 true (fieldAddrD (some 0) v4_0)) fun v164_107 =>
kv (gdV v162_106 true (ldD .one v164_107 h)) fun v165_108 =>
kv (gdV v162_106 true (binD .bad .eql true v165_108 (.int .i64 9) h)) fun v166_109 =>
kv (pickV v162_106 v166_109 (.bool false)) fun v167_110 =>
ifV v167_110 (
cl (F.estafetteref8_Space_Dead E) [a0] h fun v170_111 h =>
kv (aExtract v170_111 0) fun v171_112 =>
kv (aExtract v170_111 1) fun v172_113 =>
kP (newD none (.agg #[(.int .i64 0), (.string ⟨#[]⟩), (.int .i64 0), (.int .i64 0)]) h) fun v14_114 h =>
kH (stD (some 4) v14_114 v171_112 h) fun _ h =>
kv (aUn .not v172_113) fun v174_115 =>
ifV v174_115 (
K (.tuple #[(.string ⟨#[]⟩), (.int .i64 0)]) h) (
kv (fieldAddrD (some 0) v14_114) fun v175_116 =>
kv (ldD .one v175_116 h) fun v176_117 =>
kv (fieldAddrD (some 1) v14_114) fun v179_118 =>
kv (ldD .one v179_118 h) fun v180_119 =>
cl (F.estafetteref8_Dec E) [v176_117] h fun v177_120 h =>
ldD .one v179_118 h = some v180_119 ∧
kv (binD .bad .add true v177_120 (.string ⟨#[32]⟩) h) fun v178_121 =>
kv (binD .bad .add false v178_121 v180_119 h) fun v181_122 =>
K (.tuple #[v181_122, (.int .i64 0)]) h)) (
kv (aNil a0) fun v184_123 =>
kv (fieldAddrD (some 1) v184_123) fun v185_124 =>
kv (ldD .one v185_124 h) fun v186_125 =>
kv (binD .bad .eql true v186_125 (.int .i64 3) h) fun v187_126 =>
kv (gdV v187_126 true (fieldAddrD (some 0) v4_0)) fun v189_127 =>
kv (gdV v187_126 true (ldD .one v189_127 h)) fun v190_128 =>
kv (gdV v187_126 true (binD .bad .eql true v190_128 (.int .i64 10) h)) fun v191_129 =>
kv (pickV v187_126 v191_129 (.bool false)) fun v192_130 =>
ifV v192_130 (
kv (fieldAddrD (some 3) v4_0) fun v194_131 =>
kv (ldD .one v194_131 h) fun v195_132 =>
cl (F.estafetteref8_Space_Pub E) [a0, v195_132] h fun v196_133 h =>
kv (aExtract v196_133 0) fun v197_134 =>
kv (aExtract v196_133 1) fun v198_135 =>
cl (F.estafetteref8_full E) [v197_134, v198_135] h fun v199_136 h =>
kv (aExtract v199_136 0) fun v200_137 =>
kv (aExtract v199_136 1) fun v201_138 =>
K (.tuple #[v200_137, v201_138]) h) (
kv (aNil a0) fun v204_139 =>
kv (fieldAddrD (some 1) v204_139) fun v205_140 =>
kv (ldD .one v205_140 h) fun v206_141 =>
kv (binD .bad .eql true v206_141 (.int .i64 3) h) fun v207_142 =>
kv (gdV v207_142 true (fieldAddrD (some 0) v4_0)) fun v209_143 =>
kv (gdV v207_142 true (ldD .one v209_143 h)) fun v210_144 =>
kv (gdV v207_142 true (binD .bad .eql true v210_144 (.int .i64 11) h)) fun v211_145 =>
kv (pickV v207_142 v211_145 (.bool false)) fun v212_146 =>
ifV v212_146 (
kv (fieldAddrD (some 2) v4_0) fun v214_147 =>
kv (ldD .one v214_147 h) fun v215_148 =>
kv (fieldAddrD (some 4) v4_0) fun v216_149 =>
kv (ldD .one v216_149 h) fun v217_150 =>
cl (F.estafetteref8_Space_Fetch E) [a0, v215_148, v217_150] h fun v218_151 h =>
∃ K152 : List V → AHeap → Prop, (
∃ (Inv153 : Nat → List V → AHeap → Prop) (n153 : Nat), Inv153 n153 [(.string ⟨#[]⟩), (.int .i64 0)] h ∧ ∀ (n153 : Nat) (e153 : Nat → V) (h : AHeap), Inv153 n153 [(e153 16), (e153 18)] h →
kv (lenD .slice v218_151 h) fun v221_154 =>
kv (binD .bad .lss false (e153 18) v221_154 h) fun v222_155 =>
ifV v222_155 (
kv (indexAddrD (.slice 1) v218_151 (e153 18)) fun v227_156 =>
kv (ldD .one v227_156 h) fun v228_157 =>
kv (lenD .str v228_157 h) fun v229_158 =>
kv (indexAddrD (.slice 1) v218_151 (e153 18)) fun v234_159 =>
kv (ldD .one v234_159 h) fun v235_160 =>
cl (F.estafetteref8_Dec E) [v229_158] h fun v230_161 h =>
ldD .one v234_159 h = some v235_160 ∧
kv (binD .bad .add true v230_161 (.string ⟨#[58]⟩) h) fun v231_162 =>
kv (binD .bad .add false v231_162 v235_160 h) fun v236_163 =>
kv (lenD .str (e153 16) h) fun v238_164 =>
kv (lenD .str v236_163 h) fun v240_165 =>
kv (binD .bad .add false v238_164 v240_165 h) fun v241_166 =>
kv (binD .bad .gtr true v241_166 (.int .i64 200) h) fun v242_167 =>
ifV v242_167 (
K152 [(e153 16)] h) (
kv (binD .bad .add false (e153 16) v236_163 h) fun v245_168 =>
kv (binD .bad .add true (e153 18) (.int .i64 1) h) fun v224_169 =>
∃ m, m < n153 ∧ Inv153 m [v245_168, v224_169] h)) (
K152 [(e153 16)] h)) ∧ ∀ (e152 : Nat → V) (h : AHeap), K152 [(e152 16)] h →
K (.tuple #[(e152 16), (.int .i64 0)]) h) (
kv (aNil a0) fun v249_170 =>
kv (fieldAddrD (some 1) v249_170) fun v250_171 =>
kv (ldD .one v250_171 h) fun v251_172 =>
kv (binD .bad .eql true v251_172 (.int .i64 3) h) fun v252_173 =>
kv (gdV v252_173 true (fieldAddrD (some 0) v4_0)) fun v254_174 =>
kv (gdV v252_173 true (ldD .one v254_174 h)) fun v255_175 =>
kv (gdV v252_173 true (binD .bad .eql true v255_175 (.int .i64 12) h)) fun v256_176 =>
kv (pickV v252_173 v256_176 (.bool false)) fun v257_177 =>
ifV v257_177 (
kv (fieldAddrD (some 3) v4_0) fun v259_178 =>
kv (ldD .one v259_178 h) fun v260_179 =>
cl (F.estafetteref8_Number E) [v260_179] h fun v261_180 h =>
kv (aExtract v261_180 0) fun v262_181 =>
kv (aExtract v261_180 1) fun v263_182 =>
kv (aUn .not v263_182) fun v265_183 =>
ifV v265_183 (
K (.tuple #[(.string ⟨#[]⟩), (.int .i64 1)]) h) (
kv (fieldAddrD (some 2) v4_0) fun v267_184 =>
kv (ldD .one v267_184 h) fun v268_185 =>
kv (fieldAddrD (some 4) v4_0) fun v270_186 =>
kv (ldD .one v270_186 h) fun v271_187 =>
cl (F.estafetteref8_Space_Seek E) [a0, v268_185, v262_181, v271_187] h fun v272_188 h =>
cl (F.estafetteref8_none E) [v272_188] h fun v273_189 h =>
kv (aExtract v273_189 0) fun v274_190 =>
kv (aExtract v273_189 1) fun v275_191 =>
K (.tuple #[v274_190, v275_191]) h)) (
K (.tuple #[(.string ⟨#[]⟩), (.int .i64 1)]) h))))))))))
| _ => False

/-- maps.Keys[map[string]int64,string,int64] -/
def F.maps_Keys_map_string_int64_string_int64 (E : FE) : Spec := fun args h K => match args with
| [a0] =>
kP (newD none a0 h) fun v1_0 h =>
K (.func (.func (E.k 4)) #[] #[v1_0]) h
| _ => False

/-- (*estafette/topic.Topic).Groups -/
def F.topic_Topic_Groups (E : FE) : Spec := fun args h K => match args with
| [a0] =>
kv (binD (.ptr true) .eql true a0 (.pointer none) h) fun v4_0 =>
ifV v4_0 (
K (.slice none 0 0) h) (
kv (aNil a0) fun v6_1 =>
kv (fieldAddrD (some 1) v6_1) fun v7_2 =>
kv (ldD .one v7_2 h) fun v8_3 =>
cl (F.maps_Keys_map_string_int64_string_int64 E) [v8_3] h fun v9_4 h =>
cl (F.slices_Sorted_string E) [v9_4] h fun v10_5 h =>
K v10_5 h)
| _ => False

/-- estafette/estafettelaw8.sameTopic -/
def F.estafettelaw8_sameTopic (E : FE) : Spec := fun args h K => match args with
| [a0, a1] =>
cl (F.topic_Topic_Groups E) [a0] h fun v8_0 h =>
kv (aNil a1) fun v12_1 =>
kv (fieldAddrD (some 4) v12_1) fun v13_2 =>
kv (ldD .one v13_2 h) fun v14_3 =>
kv (lenD .slice v14_3 h) fun v15_4 =>
cl (F.topic_Topic_Len E) [a0] h fun v10_5 h =>
ldD .one v13_2 h = some v14_3 ∧
kv (binD .bad .neq false v10_5 v15_4 h) fun v16_6 =>
kv (gdV v16_6 false (some v8_0)) fun v18_7 =>
kv (gdV v16_6 false (lenD .slice v18_7 h)) fun v19_8 =>
kv (gdV v16_6 false (some a1)) fun v20_9 =>
kv (gdV v16_6 false (aNil v20_9)) fun v21_10 =>
kv (gdV v16_6 false (fieldAddrD (some 2) v21_10)) fun v22_11 =>
kv (gdV v16_6 false (ldD .one v22_11 h)) fun v23_12 =>
kv (gdV v16_6 false (lenD .slice v23_12 h)) fun v24_13 =>
kv (gdV v16_6 false (binD .bad .neq false v19_8 v24_13 h)) fun v25_14 =>
kv (pickV v16_6 (.bool true) v25_14) fun v26_15 =>
ifV v26_15 (
K (.bool false) h) (
∃ (Inv16 : Nat → List V → AHeap → Prop) (n16 : Nat), Inv16 n16 [(.int .i64 0)] h ∧ ∀ (n16 : Nat) (e16 : Nat → V) (h : AHeap), Inv16 n16 [(e16 6)] h →
kv (lenD .slice v8_0 h) fun v29_17 =>
kv (binD .bad .lss false (e16 6) v29_17 h) fun v30_18 =>
ifV v30_18 (
kv (indexAddrD (.slice 1) v8_0 (e16 6)) fun v35_19 =>
kv (ldD .one v35_19 h) fun v36_20 =>
kv (aNil a1) fun v38_21 =>
kv (fieldAddrD (some 2) v38_21) fun v39_22 =>
kv (ldD .one v39_22 h) fun v40_23 =>
kv (indexAddrD (.slice 3) v40_23 (e16 6)) fun v42_24 =>
kv (fieldAddrD (some 0) v42_24) fun v43_25 =>
kv (ldD .one v43_25 h) fun v44_26 =>
kv (binD .bad .neq false v36_20 v44_26 h) fun v45_27 =>
kv (gdV v45_27 false (some a0)) fun v47_28 =>
kv (gdV v45_27 false (some v8_0)) fun v48_29 =>
kv (gdV v45_27 false (some (e16 6))) fun v49_30 =>
kv (gdV v45_27 false (indexAddrD (.slice 1) v48_29 v49_30)) fun v50_31 =>
kv (gdV v45_27 false (ldD .one v50_31 h)) fun v51_32 =>
kv (gdV v45_27 false (some a1)) fun v53_33 =>
kv (gdV v45_27 false (aNil v53_33)) fun v54_34 =>
kv (gdV v45_27 false (fieldAddrD (some 2) v54_34)) fun v55_35 =>
kv (gdV v45_27 false (ldD .one v55_35 h)) fun v56_36 =>
kv (gdV v45_27 false (some (e16 6))) fun v57_37 =>
kv (gdV v45_27 false (indexAddrD (.slice 3) v56_36 v57_37)) fun v58_38 =>
kv (gdV v45_27 false (fieldAddrD (some 2) v58_38)) fun v59_39 =>
kv (gdV v45_27 false (ldD .one v59_39 h)) fun v60_40 =>
gdC v45_27 false h (fun K41 => cl (F.topic_Topic_At E) [v47_28, v51_32] h fun v h => gdV v45_27 false (ldD .one v55_35 h) = some v56_36 ∧
gdV v45_27 false (ldD .one v59_39 h) = some v60_40 ∧
K41 v h) fun v52_42 h =>
kv (gdV v45_27 false (binD .bad .neq false v52_42 v60_40 h)) fun v61_43 =>
kv (pickV v45_27 (.bool true) v61_43) fun v62_44 =>
ifV v62_44 (
K (.bool false) h) (
kv (binD .bad .add true (e16 6) (.int .i64 1) h) fun v32_45 =>
∃ m, m < n16 ∧ Inv16 m [v32_45] h)) (
K (.bool true) h))
| _ => False

/-- estafette/estafettelaw8.vals -/
def F.estafettelaw8_vals (E : FE) : Spec := fun args h K => match args with
| [a0] =>
∃ (Inv0 : Nat → List V → AHeap → Prop) (n0 : Nat), Inv0 n0 [(.slice none 0 0), (.int .i64 0)] h ∧ ∀ (n0 : Nat) (e0 : Nat → V) (h : AHeap), Inv0 n0 [(e0 3), (e0 4)] h →
kv (lenD .slice a0 h) fun v7_1 =>
kv (binD .bad .lss false (e0 4) v7_1 h) fun v8_2 =>
ifV v8_2 (
kv (indexAddrD (.slice 4) a0 (e0 4)) fun v14_3 =>
kv (fieldAddrD (some 1) v14_3) fun v15_4 =>
kv (ldD .one v15_4 h) fun v16_5 =>
kP (buildSliceD (some (1, [(.string ⟨#[]⟩)])) 1 [(0, v16_5)] h) fun v17_6 h =>
kP (appendD (some (1, 16, [(.string ⟨#[]⟩)])) (e0 3) v17_6 h) fun v18_7 h =>
kv (binD .bad .add true (e0 4) (.int .i64 1) h) fun v10_8 =>
∃ m, m < n0 ∧ Inv0 m [v18_7, v10_8] h) (
K (e0 3) h)
| _ => False

/-- estafette/estafettelaw8.texts -/
def F.estafettelaw8_texts (E : FE) : Spec := fun args h K => match args with
| [a0, a1] =>
kv (lenD .slice a0 h) fun v7_0 =>
kv (lenD .slice a1 h) fun v9_1 =>
kv (binD .bad .neq false v7_0 v9_1 h) fun v10_2 =>
ifV v10_2 (
K (.bool false) h) (
∃ (Inv3 : Nat → List V → AHeap → Prop) (n3 : Nat), Inv3 n3 [(.int .i64 0)] h ∧ ∀ (n3 : Nat) (e3 : Nat → V) (h : AHeap), Inv3 n3 [(e3 5)] h →
kv (lenD .slice a0 h) fun v13_4 =>
kv (binD .bad .lss false (e3 5) v13_4 h) fun v14_5 =>
ifV v14_5 (
kv (indexAddrD (.slice 1) a0 (e3 5)) fun v19_6 =>
kv (ldD .one v19_6 h) fun v20_7 =>
kv (indexAddrD (.slice 1) a1 (e3 5)) fun v23_8 =>
kv (ldD .one v23_8 h) fun v24_9 =>
kv (binD .bad .neq false v20_7 v24_9 h) fun v25_10 =>
ifV v25_10 (
K (.bool false) h) (
kv (binD .bad .add true (e3 5) (.int .i64 1) h) fun v16_11 =>
∃ m, m < n3 ∧ Inv3 m [v16_11] h)) (
K (.bool true) h))
| _ => False

/-- estafette/estafettelaw8.Same -/
def F.estafettelaw8_Same (E : FE) : Spec := fun args h K => match args with
| [a0, a1] =>
kv (binD (.ptr true) .eql true a0 (.pointer none) h) fun v6_0 =>
kv (gdV v6_0 false (some a0)) fun v8_1 =>
kv (gdV v6_0 false (aNil v8_1)) fun v9_2 =>
kv (gdV v6_0 false (fieldAddrD (some 0) v9_2)) fun v10_3 =>
kv (gdV v6_0 false (ldD .one v10_3 h)) fun v11_4 =>
kv (gdV v6_0 false (some a1)) fun v12_5 =>
kv (gdV v6_0 false (aNil v12_5)) fun v13_6 =>
kv (gdV v6_0 false (fieldAddrD (some 1) v13_6)) fun v14_7 =>
kv (gdV v6_0 false (ldD .one v14_7 h)) fun v15_8 =>
kv (gdV v6_0 false (binD .bad .neq false v11_4 v15_8 h)) fun v16_9 =>
kv (pickV v6_0 (.bool true) v16_9) fun v17_10 =>
ifV v17_10 (
K (.bool false) h) (
kv (aNil a0) fun v19_11 =>
kv (fieldAddrD (some 0) v19_11) fun v20_12 =>
kv (ldD .one v20_12 h) fun v21_13 =>
kv (binD .bad .eql true v21_13 (.int .i64 1) h) fun v23_14 =>
ifV v23_14 (
kv (aNil a0) fun v25_15 =>
kv (fieldAddrD (some 1) v25_15) fun v26_16 =>
kv (ldD .one v26_16 h) fun v27_17 =>
cl (F.estafettelaw8_sameTable E) [v27_17, a1] h fun v29_18 h =>
K v29_18 h) (
kv (binD .bad .eql true v21_13 (.int .i64 2) h) fun v31_19 =>
ifV v31_19 (
kv (aNil a0) fun v33_20 =>
kv (fieldAddrD (some 2) v33_20) fun v34_21 =>
kv (ldD .one v34_21 h) fun v35_22 =>
kv (aNil a1) fun v38_23 =>
kv (fieldAddrD (some 4) v38_23) fun v39_24 =>
kv (ldD .one v39_24 h) fun v40_25 =>
cl (F.queue_Queue_Items E) [v35_22] h fun v36_26 h =>
ldD .one v39_24 h = some v40_25 ∧
cl (F.estafettelaw8_msgs E) [v36_26, v40_25] h fun v41_27 h =>
kv (gdV v41_27 true (some a0)) fun v43_28 =>
kv (gdV v41_27 true (aNil v43_28)) fun v44_29 =>
kv (gdV v41_27 true (fieldAddrD (some 2) v44_29)) fun v45_30 =>
kv (gdV v41_27 true (ldD .one v45_30 h)) fun v46_31 =>
kv (gdV v41_27 true (some a1)) fun v48_32 =>
kv (gdV v41_27 true (aNil v48_32)) fun v49_33 =>
kv (gdV v41_27 true (fieldAddrD (some 5) v49_33)) fun v50_34 =>
kv (gdV v41_27 true (ldD .one v50_34 h)) fun v51_35 =>
gdC v41_27 true h (fun K36 => cl (F.queue_Queue_Lost E) [v46_31] h fun v h => gdV v41_27 true (ldD .one v50_34 h) = some v51_35 ∧
K36 v h) fun v47_37 h =>
gdC v41_27 true h (fun K38 => cl (F.estafettelaw8_msgs E) [v47_37, v51_35] h fun v h => K38 v h) fun v52_39 h =>
kv (pickV v41_27 v52_39 (.bool false)) fun v53_40 =>
kv (gdV v53_40 true (some a0)) fun v55_41 =>
kv (gdV v53_40 true (aNil v55_41)) fun v56_42 =>
kv (gdV v53_40 true (fieldAddrD (some 2) v56_42)) fun v57_43 =>
kv (gdV v53_40 true (ldD .one v57_43 h)) fun v58_44 =>
kv (gdV v53_40 true (some a1)) fun v60_45 =>
kv (gdV v53_40 true (aNil v60_45)) fun v61_46 =>
kv (gdV v53_40 true (fieldAddrD (some 6) v61_46)) fun v62_47 =>
kv (gdV v53_40 true (ldD .one v62_47 h)) fun v63_48 =>
gdC v53_40 true h (fun K49 => cl (F.queue_Queue_Next E) [v58_44] h fun v h => gdV v53_40 true (ldD .one v62_47 h) = some v63_48 ∧
K49 v h) fun v59_50 h =>
kv (gdV v53_40 true (binD .bad .eql false v59_50 v63_48 h)) fun v64_51 =>
kv (pickV v53_40 v64_51 (.bool false)) fun v65_52 =>
K v65_52 h) (
kv (aNil a0) fun v67_53 =>
kv (fieldAddrD (some 3) v67_53) fun v68_54 =>
kv (ldD .one v68_54 h) fun v69_55 =>
cl (F.estafettelaw8_sameTopic E) [v69_55, a1] h fun v71_56 h =>
kv (gdV v71_56 true (some a0)) fun v73_57 =>
kv (gdV v71_56 true (aNil v73_57)) fun v74_58 =>
kv (gdV v71_56 true (fieldAddrD (some 3) v74_58)) fun v75_59 =>
kv (gdV v71_56 true (ldD .one v75_59 h)) fun v76_60 =>
kv (gdV v71_56 true (some a1)) fun v78_61 =>
kv (gdV v71_56 true (aNil v78_61)) fun v79_62 =>
kv (gdV v71_56 true (fieldAddrD (some 4) v79_62)) fun v80_63 =>
kv (gdV v71_56 true (ldD .one v80_63 h)) fun v81_64 =>
gdC v71_56 true h (fun K65 => cl (F.topic_Topic_Fetch E) [v76_60, (.string ⟨#[110, 111, 32, 103, 114, 111, 117, 112, 32, 104, 97, 115, 32, 97, 32, 110, 97, 109, 101, 32, 111, 102, 32, 115, 111, 32, 109, 97, 110, 121, 32, 108, 101, 116, 116, 101, 114, 115, 32, 97, 115, 32, 116, 104, 105, 115, 32, 111, 110, 101]⟩), (.int .i64 100)] h fun v h => gdV v71_56 true (ldD .one v80_63 h) = some v81_64 ∧
K65 v h) fun v77_66 h =>
gdC v71_56 true h (fun K67 => cl (F.estafettelaw8_vals E) [v81_64] h fun v h => K67 v h) fun v82_68 h =>
gdC v71_56 true h (fun K69 => cl (F.estafettelaw8_texts E) [v77_66, v82_68] h fun v h => K69 v h) fun v83_70 h =>
kv (pickV v71_56 v83_70 (.bool false)) fun v84_71 =>
K v84_71 h)))
| _ => False

/-- slices.Equal[[]string,string] -/
def F.slices_Equal_Sstring_string (E : FE) : Spec := fun args h K => match args with
| [a0, a1] =>
kv (lenD .slice a0 h) fun v7_0 =>
kv (lenD .slice a1 h) fun v9_1 =>
kv (binD .bad .neq false v7_0 v9_1 h) fun v10_2 =>
ifV v10_2 (
K (.bool false) h) (
kv (lenD .slice a0 h) fun v12_3 =>
∃ (Inv4 : Nat → List V → AHeap → Prop) (n4 : Nat), Inv4 n4 [(.int .i64 0)] h ∧ ∀ (n4 : Nat) (e4 : Nat → V) (h : AHeap), Inv4 n4 [(e4 13)] h →
kv (binD .bad .lss false (e4 13) v12_3 h) fun v14_5 =>
ifV v14_5 (
kv (indexAddrD (.slice 1) a0 (e4 13)) fun v18_6 =>
kv (ldD .one v18_6 h) fun v19_7 =>
kv (indexAddrD (.slice 1) a1 (e4 13)) fun v22_8 =>
kv (ldD .one v22_8 h) fun v23_9 =>
kv (binD .bad .neq false v19_7 v23_9 h) fun v24_10 =>
ifV v24_10 (
K (.bool false) h) (
kv (binD .bad .add true (e4 13) (.int .i64 1) h) fun v25_11 =>
∃ m, m < n4 ∧ Inv4 m [v25_11] h)) (
K (.bool true) h))
| _ => False

/-- slices.IndexFunc[[]string,string] -/
def F.slices_IndexFunc_Sstring_string (E : FE) : Spec := fun args h K => match args with
| [a0, a1] =>
kv (lenD .slice a0 h) fun v7_0 =>
∃ (Inv1 : Nat → List V → AHeap → Prop) (n1 : Nat), Inv1 n1 [(.int .i64 0)] h ∧ ∀ (n1 : Nat) (e1 : Nat → V) (h : AHeap), Inv1 n1 [(e1 8)] h →
kv (binD .bad .lss false (e1 8) v7_0 h) fun v9_2 =>
ifV v9_2 (
kv (indexAddrD (.slice 1) a0 (e1 8)) fun v14_3 =>
kv (ldD .one v14_3 h) fun v15_4 =>
aCall E.I a1 [v15_4] h fun v16_5 h =>
ifV v16_5 (
K (e1 8) h) (
kv (binD .bad .add true (e1 8) (.int .i64 1) h) fun v18_6 =>
∃ m, m < n1 ∧ Inv1 m [v18_6] h)) (
K (.int .i64 (-1)) h)
| _ => False

/-- slices.ContainsFunc[[]string,string] -/
def F.slices_ContainsFunc_Sstring_string (E : FE) : Spec := fun args h K => match args with
| [a0, a1] =>
cl (F.slices_IndexFunc_Sstring_string E) [a0, a1] h fun v7_0 h =>
kv (binD .bad .geq true v7_0 (.int .i64 0) h) fun v8_1 =>
K v8_1 h
| _ => False

/-- estafette/space.alike$1 -/
def F.space_alike_1 (E : FE) : Spec := fun args h K => match args with
| [a0, a1, a2] =>
kv (ldD .one a1 h) fun v10_0 =>
cl (F.table_Table_Get E) [v10_0, a0] h fun v12_1 h =>
kv (aExtract v12_1 0) fun v13_2 =>
kv (aExtract v12_1 1) fun v14_3 =>
kv (ldD .one a2 h) fun v16_4 =>
cl (F.table_Table_Get E) [v16_4, a0] h fun v18_5 h =>
kv (aExtract v18_5 0) fun v19_6 =>
kv (aExtract v18_5 1) fun v20_7 =>
kv (binD .bad .neq false v13_2 v19_6 h) fun v23_8 =>
K v23_8 h
| _ => False

/-- estafette/space.alike -/
def F.space_alike (E : FE) : Spec := fun args h K => match args with
| [a0, a1] =>
kP (newD none a0 h) fun v2_0 h =>
kP (newD none a1 h) fun v3_1 h =>
kv (ldD .one v2_0 h) fun v5_2 =>
kv (ldD .one v3_1 h) fun v7_3 =>
cl (F.table_Table_Keys E) [v5_2] h fun v6_4 h =>
ldD .one v3_1 h = some v7_3 ∧
cl (F.table_Table_Keys E) [v7_3] h fun v8_5 h =>
cl (F.slices_Equal_Sstring_string E) [v6_4, v8_5] h fun v9_6 h =>
kv (aUn .not v9_6) fun v10_7 =>
ifV v10_7 (
K (.bool false) h) (
kv (ldD .one v2_0 h) fun v11_8 =>
cl (F.table_Table_Keys E) [v11_8] h fun v12_9 h =>
cl (F.slices_ContainsFunc_Sstring_string E) [v12_9, (.func (.func (E.k 2)) #[] #[v2_0, v3_1])] h fun v14_10 h =>
kv (aUn .not v14_10) fun v15_11 =>
K v15_11 h)
| _ => False

/-- slices.Equal[[]estafette/api.Msg,estafette/api.Msg] -/
def F.slices_Equal_Sapi_Msg_api_Msg (E : FE) : Spec := fun args h K => match args with
| [a0, a1] =>
kv (lenD .slice a0 h) fun v7_0 =>
kv (lenD .slice a1 h) fun v9_1 =>
kv (binD .bad .neq false v7_0 v9_1 h) fun v10_2 =>
ifV v10_2 (
K (.bool false) h) (
kv (lenD .slice a0 h) fun v12_3 =>
∃ (Inv4 : Nat → List V → AHeap → Prop) (n4 : Nat), Inv4 n4 [(.int .i64 0)] h ∧ ∀ (n4 : Nat) (e4 : Nat → V) (h : AHeap), Inv4 n4 [(e4 13)] h →
kv (binD .bad .lss false (e4 13) v12_3 h) fun v14_5 =>
ifV v14_5 (
kv (indexAddrD (.slice 4) a0 (e4 13)) fun v18_6 =>
kv (ldD (.agg 4) v18_6 h) fun v19_7 =>
kv (indexAddrD (.slice 4) a1 (e4 13)) fun v22_8 =>
kv (ldD (.agg 4) v22_8 h) fun v23_9 =>
kv (binD (.struct [(0, .int), (1, .string), (2, .int), (3, .int)]) .neq false v19_7 v23_9 h) fun v24_10 =>
ifV v24_10 (
K (.bool false) h) (
kv (binD .bad .add true (e4 13) (.int .i64 1) h) fun v25_11 =>
∃ m, m < n4 ∧ Inv4 m [v25_11] h)) (
K (.bool true) h))
| _ => False

/-- slices.Index[[]string,string] -/
def F.slices_Index_Sstring_string (E : FE) : Spec := fun args h K => match args with
| [a0, a1] =>
kv (lenD .slice a0 h) fun v7_0 =>
∃ (Inv1 : Nat → List V → AHeap → Prop) (n1 : Nat), Inv1 n1 [(.int .i64 0)] h ∧ ∀ (n1 : Nat) (e1 : Nat → V) (h : AHeap), Inv1 n1 [(e1 8)] h →
kv (binD .bad .lss false (e1 8) v7_0 h) fun v9_2 =>
ifV v9_2 (
kv (indexAddrD (.slice 1) a0 (e1 8)) fun v14_3 =>
kv (ldD .one v14_3 h) fun v15_4 =>
kv (binD .bad .eql false a1 v15_4 h) fun v16_5 =>
ifV v16_5 (
K (e1 8) h) (
kv (binD .bad .add true (e1 8) (.int .i64 1) h) fun v18_6 =>
∃ m, m < n1 ∧ Inv1 m [v18_6] h)) (
K (.int .i64 (-1)) h)
| _ => False

/-- slices.Contains[[]string,string] -/
def F.slices_Contains_Sstring_string (E : FE) : Spec := fun args h K => match args with
| [a0, a1] =>
cl (F.slices_Index_Sstring_string E) [a0, a1] h fun v7_0 h =>
kv (binD .bad .geq true v7_0 (.int .i64 0) h) fun v8_1 =>
K v8_1 h
| _ => False

/-- estafette/space.texts -/
def F.space_texts (E : FE) : Spec := fun args h K => match args with
| [a0] =>
∃ (Inv0 : Nat → List V → AHeap → Prop) (n0 : Nat), Inv0 n0 [(.string ⟨#[]⟩)] h ∧ ∀ (n0 : Nat) (e0 : Nat → V) (h : AHeap), Inv0 n0 [(e0 3)] h →
cl (F.topic_Topic_Groups E) [a0] h fun v5_1 h =>
cl (F.slices_Contains_Sstring_string E) [v5_1, (e0 3)] h fun v7_2 h =>
ifV v7_2 (
kv (binD .bad .add true (e0 3) (.string ⟨#[120]⟩) h) fun v9_3 =>
∃ m, m < n0 ∧ Inv0 m [v9_3] h) (
cl (F.topic_Topic_Len E) [a0] h fun v13_4 h =>
cl (F.topic_Topic_Fetch E) [a0, (e0 3), v13_4] h fun v14_5 h =>
K v14_5 h)
| _ => False

/-- (*estafette/space.Space).Eq$1 -/
def F.space_Space_Eq_1 (E : FE) : Spec := fun args h K => match args with
| [a0, a1, a2] =>
kv (ldD .one a1 h) fun v5_0 =>
kv (aNil v5_0) fun v6_1 =>
kv (fieldAddrD (some 3) v6_1) fun v7_2 =>
kv (ldD .one v7_2 h) fun v8_3 =>
kv (ldD .one a2 h) fun v11_4 =>
kv (aNil v11_4) fun v12_5 =>
kv (fieldAddrD (some 3) v12_5) fun v13_6 =>
kv (ldD .one v13_6 h) fun v14_7 =>
cl (F.topic_Topic_At E) [v8_3, a0] h fun v10_8 h =>
ldD .one a2 h = some v11_4 ∧
ldD .one v13_6 h = some v14_7 ∧
cl (F.topic_Topic_At E) [v14_7, a0] h fun v16_9 h =>
kv (binD .bad .neq false v10_8 v16_9 h) fun v17_10 =>
K v17_10 h
| _ => False

/-- (*estafette/space.Space).Eq -/
def F.space_Space_Eq (E : FE) : Spec := fun args h K => match args with
| [a0, a1] =>
kP (newD none a0 h) fun v2_0 h =>
kP (newD none a1 h) fun v3_1 h =>
kv (ldD .one v2_0 h) fun v6_2 =>
kv (binD (.ptr true) .eql true v6_2 (.pointer none) h) fun v7_3 =>
kv (gdV v7_3 false (ldD .one v3_1 h)) fun v9_4 =>
kv (gdV v7_3 false (binD (.ptr true) .eql true v9_4 (.pointer none) h)) fun v10_5 =>
kv (pickV v7_3 (.bool true) v10_5) fun v11_6 =>
kv (gdV v11_6 false (ldD .one v2_0 h)) fun v13_7 =>
kv (gdV v11_6 false (aNil v13_7)) fun v14_8 =>
kv (gdV v11_6 false (fieldAddrD (some 0) v14_8)) fun v15_9 =>
kv (gdV v11_6 false (ldD .one v15_9 h)) fun v16_10 =>
kv (gdV v11_6 false (ldD .one v3_1 h)) fun v17_11 =>
kv (gdV v11_6 false (aNil v17_11)) fun v18_12 =>
kv (gdV v11_6 false (fieldAddrD (some 0) v18_12)) fun v19_13 =>
kv (gdV v11_6 false (ldD .one v19_13 h)) fun v20_14 =>
kv (gdV v11_6 false (binD .bad .neq false v16_10 v20_14 h)) fun v21_15 =>
kv (pickV v11_6 (.bool true) v21_15) fun v22_16 =>
ifV v22_16 (
kv (ldD .one v2_0 h) fun v23_17 =>
kv (binD (.ptr true) .eql true v23_17 (.pointer none) h) fun v24_18 =>
kv (gdV v24_18 true (ldD .one v3_1 h)) fun v26_19 =>
kv (gdV v24_18 true (binD (.ptr true) .eql true v26_19 (.pointer none) h)) fun v27_20 =>
kv (pickV v24_18 v27_20 (.bool false)) fun v28_21 =>
K v28_21 h) (
kv (ldD .one v2_0 h) fun v29_22 =>
kv (aNil v29_22) fun v30_23 =>
kv (fieldAddrD (some 0) v30_23) fun v31_24 =>
kv (ldD .one v31_24 h) fun v32_25 =>
kv (binD .bad .eql true v32_25 (.int .i64 1) h) fun v34_26 =>
ifV v34_26 (
kv (ldD .one v2_0 h) fun v35_27 =>
kv (aNil v35_27) fun v36_28 =>
kv (fieldAddrD (some 1) v36_28) fun v37_29 =>
kv (ldD .one v37_29 h) fun v38_30 =>
kv (ldD .one v3_1 h) fun v39_31 =>
kv (aNil v39_31) fun v40_32 =>
kv (fieldAddrD (some 1) v40_32) fun v41_33 =>
kv (ldD .one v41_33 h) fun v42_34 =>
cl (F.space_alike E) [v38_30, v42_34] h fun v43_35 h =>
K v43_35 h) (
kv (binD .bad .eql true v32_25 (.int .i64 2) h) fun v45_36 =>
ifV v45_36 (
kv (ldD .one v2_0 h) fun v46_37 =>
kv (aNil v46_37) fun v47_38 =>
kv (fieldAddrD (some 2) v47_38) fun v48_39 =>
kv (ldD .one v48_39 h) fun v49_40 =>
kv (ldD .one v3_1 h) fun v51_41 =>
kv (aNil v51_41) fun v52_42 =>
kv (fieldAddrD (some 2) v52_42) fun v53_43 =>
kv (ldD .one v53_43 h) fun v54_44 =>
cl (F.queue_Queue_Next E) [v49_40] h fun v50_45 h =>
ldD .one v3_1 h = some v51_41 ∧
ldD .one v53_43 h = some v54_44 ∧
cl (F.queue_Queue_Next E) [v54_44] h fun v55_46 h =>
kv (binD .bad .eql false v50_45 v55_46 h) fun v56_47 =>
kv (gdV v56_47 true (ldD .one v2_0 h)) fun v58_48 =>
kv (gdV v56_47 true (aNil v58_48)) fun v59_49 =>
kv (gdV v56_47 true (fieldAddrD (some 2) v59_49)) fun v60_50 =>
kv (gdV v56_47 true (ldD .one v60_50 h)) fun v61_51 =>
kv (gdV v56_47 true (ldD .one v3_1 h)) fun v63_52 =>
kv (gdV v56_47 true (aNil v63_52)) fun v64_53 =>
kv (gdV v56_47 true (fieldAddrD (some 2) v64_53)) fun v65_54 =>
kv (gdV v56_47 true (ldD .one v65_54 h)) fun v66_55 =>
gdC v56_47 true h (fun K56 => cl (F.queue_Queue_Items E) [v61_51] h fun v h => gdV v56_47 true (ldD .one v3_1 h) = some v63_52 ∧
gdV v56_47 true (ldD .one v65_54 h) = some v66_55 ∧
K56 v h) fun v62_57 h =>
gdC v56_47 true h (fun K58 => cl (F.queue_Queue_Items E) [v66_55] h fun v h => K58 v h) fun v67_59 h =>
gdC v56_47 true h (fun K60 => cl (F.slices_Equal_Sapi_Msg_api_Msg E) [v62_57, v67_59] h fun v h => K60 v h) fun v68_61 h =>
kv (pickV v56_47 v68_61 (.bool false)) fun v69_62 =>
kv (gdV v69_62 true (ldD .one v2_0 h)) fun v71_63 =>
kv (gdV v69_62 true (aNil v71_63)) fun v72_64 =>
kv (gdV v69_62 true (fieldAddrD (some 2) v72_64)) fun v73_65 =>
kv (gdV v69_62 true (ldD .one v73_65 h)) fun v74_66 =>
kv (gdV v69_62 true (ldD .one v3_1 h)) fun v76_67 =>
kv (gdV v69_62 true (aNil v76_67)) fun v77_68 =>
kv (gdV v69_62 true (fieldAddrD (some 2) v77_68)) fun v78_69 =>
kv (gdV v69_62 true (ldD .one v78_69 h)) fun v79_70 =>
gdC v69_62 true h (fun K71 => cl (F.queue_Queue_Lost E) [v74_66] h fun v h => gdV v69_62 true (ldD .one v3_1 h) = some v76_67 ∧
gdV v69_62 true (ldD .one v78_69 h) = some v79_70 ∧
K71 v h) fun v75_72 h =>
gdC v69_62 true h (fun K73 => cl (F.queue_Queue_Lost E) [v79_70] h fun v h => K73 v h) fun v80_74 h =>
gdC v69_62 true h (fun K75 => cl (F.slices_Equal_Sapi_Msg_api_Msg E) [v75_72, v80_74] h fun v h => K75 v h) fun v81_76 h =>
kv (pickV v69_62 v81_76 (.bool false)) fun v82_77 =>
K v82_77 h) (
kv (ldD .one v2_0 h) fun v84_78 =>
kv (aNil v84_78) fun v85_79 =>
kv (fieldAddrD (some 3) v85_79) fun v86_80 =>
kv (ldD .one v86_80 h) fun v87_81 =>
kv (ldD .one v3_1 h) fun v89_82 =>
kv (aNil v89_82) fun v90_83 =>
kv (fieldAddrD (some 3) v90_83) fun v91_84 =>
kv (ldD .one v91_84 h) fun v92_85 =>
cl (F.topic_Topic_Groups E) [v87_81] h fun v88_86 h =>
ldD .one v3_1 h = some v89_82 ∧
ldD .one v91_84 h = some v92_85 ∧
cl (F.topic_Topic_Groups E) [v92_85] h fun v93_87 h =>
cl (F.slices_Equal_Sstring_string E) [v88_86, v93_87] h fun v94_88 h =>
kv (gdV v94_88 true (ldD .one v2_0 h)) fun v96_89 =>
kv (gdV v94_88 true (aNil v96_89)) fun v97_90 =>
kv (gdV v94_88 true (fieldAddrD (some 3) v97_90)) fun v98_91 =>
kv (gdV v94_88 true (ldD .one v98_91 h)) fun v99_92 =>
kv (gdV v94_88 true (some (.func (.func (E.k 1)) #[] #[v2_0, v3_1]))) fun v101_93 =>
gdC v94_88 true h (fun K94 => cl (F.topic_Topic_Groups E) [v99_92] h fun v h => K94 v h) fun v100_95 h =>
gdC v94_88 true h (fun K96 => cl (F.slices_ContainsFunc_Sstring_string E) [v100_95, v101_93] h fun v h => K96 v h) fun v102_97 h =>
kv (gdV v94_88 true (aUn .not v102_97)) fun v103_98 =>
kv (pickV v94_88 v103_98 (.bool false)) fun v104_99 =>
kv (gdV v104_99 true (ldD .one v2_0 h)) fun v106_100 =>
kv (gdV v104_99 true (aNil v106_100)) fun v107_101 =>
kv (gdV v104_99 true (fieldAddrD (some 3) v107_101)) fun v108_102 =>
kv (gdV v104_99 true (ldD .one v108_102 h)) fun v109_103 =>
kv (gdV v104_99 true (ldD .one v3_1 h)) fun v111_104 =>
kv (gdV v104_99 true (aNil v111_104)) fun v112_105 =>
kv (gdV v104_99 true (fieldAddrD (some 3) v112_105)) fun v113_106 =>
kv (gdV v104_99 true (ldD .one v113_106 h)) fun v114_107 =>
gdC v104_99 true h (fun K108 => cl (F.space_texts E) [v109_103] h fun v h => gdV v104_99 true (ldD .one v3_1 h) = some v111_104 ∧
gdV v104_99 true (ldD .one v113_106 h) = some v114_107 ∧
K108 v h) fun v110_109 h =>
gdC v104_99 true h (fun K110 => cl (F.space_texts E) [v114_107] h fun v h => K110 v h) fun v115_111 h =>
gdC v104_99 true h (fun K112 => cl (F.slices_Equal_Sstring_string E) [v110_109, v115_111] h fun v h => K112 v h) fun v116_113 h =>
kv (pickV v104_99 v116_113 (.bool false)) fun v117_114 =>
K v117_114 h)))
| _ => False

/-- (*estafette/estafetteref8.Space).Eq -/
def F.estafetteref8_Space_Eq (E : FE) : Spec := fun args h K => match args with
| [a0, a1] =>
kv (aNil a0) fun v9_0 =>
kv (fieldAddrD (some 1) v9_0) fun v10_1 =>
kv (ldD .one v10_1 h) fun v11_2 =>
kv (aNil a1) fun v13_3 =>
kv (fieldAddrD (some 1) v13_3) fun v14_4 =>
kv (ldD .one v14_4 h) fun v15_5 =>
kv (binD .bad .neq false v11_2 v15_5 h) fun v16_6 =>
kv (gdV v16_6 false (some a0)) fun v18_7 =>
kv (gdV v16_6 false (aNil v18_7)) fun v19_8 =>
kv (gdV v16_6 false (fieldAddrD (some 2) v19_8)) fun v20_9 =>
kv (gdV v16_6 false (ldD .one v20_9 h)) fun v21_10 =>
kv (gdV v16_6 false (lenD .slice v21_10 h)) fun v22_11 =>
kv (gdV v16_6 false (some a1)) fun v23_12 =>
kv (gdV v16_6 false (aNil v23_12)) fun v24_13 =>
kv (gdV v16_6 false (fieldAddrD (some 2) v24_13)) fun v25_14 =>
kv (gdV v16_6 false (ldD .one v25_14 h)) fun v26_15 =>
kv (gdV v16_6 false (lenD .slice v26_15 h)) fun v27_16 =>
kv (gdV v16_6 false (binD .bad .neq false v22_11 v27_16 h)) fun v28_17 =>
kv (pickV v16_6 (.bool true) v28_17) fun v29_18 =>
kv (gdV v29_18 false (some a0)) fun v31_19 =>
kv (gdV v29_18 false (aNil v31_19)) fun v32_20 =>
kv (gdV v29_18 false (fieldAddrD (some 4) v32_20)) fun v33_21 =>
kv (gdV v29_18 false (ldD .one v33_21 h)) fun v34_22 =>
kv (gdV v29_18 false (lenD .slice v34_22 h)) fun v35_23 =>
kv (gdV v29_18 false (some a1)) fun v36_24 =>
kv (gdV v29_18 false (aNil v36_24)) fun v37_25 =>
kv (gdV v29_18 false (fieldAddrD (some 4) v37_25)) fun v38_26 =>
kv (gdV v29_18 false (ldD .one v38_26 h)) fun v39_27 =>
kv (gdV v29_18 false (lenD .slice v39_27 h)) fun v40_28 =>
kv (gdV v29_18 false (binD .bad .neq false v35_23 v40_28 h)) fun v41_29 =>
kv (pickV v29_18 (.bool true) v41_29) fun v42_30 =>
kv (gdV v42_30 false (some a0)) fun v44_31 =>
kv (gdV v42_30 false (aNil v44_31)) fun v45_32 =>
kv (gdV v42_30 false (fieldAddrD (some 5) v45_32)) fun v46_33 =>
kv (gdV v42_30 false (ldD .one v46_33 h)) fun v47_34 =>
kv (gdV v42_30 false (lenD .slice v47_34 h)) fun v48_35 =>
kv (gdV v42_30 false (some a1)) fun v49_36 =>
kv (gdV v42_30 false (aNil v49_36)) fun v50_37 =>
kv (gdV v42_30 false (fieldAddrD (some 5) v50_37)) fun v51_38 =>
kv (gdV v42_30 false (ldD .one v51_38 h)) fun v52_39 =>
kv (gdV v42_30 false (lenD .slice v52_39 h)) fun v53_40 =>
kv (gdV v42_30 false (binD .bad .neq false v48_35 v53_40 h)) fun v54_41 =>
kv (pickV v42_30 (.bool true) v54_41) fun v55_42 =>
kv (gdV v55_42 false (some a0)) fun v57_43 =>
kv (gdV v55_42 false (aNil v57_43)) fun v58_44 =>
kv (gdV v55_42 false (fieldAddrD (some 1) v58_44)) fun v59_45 =>
kv (gdV v55_42 false (ldD .one v59_45 h)) fun v60_46 =>
kv (gdV v55_42 false (binD .bad .eql true v60_46 (.int .i64 2) h)) fun v61_47 =>
kv (gdV v55_42 false (some v61_47)) fun v62_48 =>
kv (gdV v62_48 true (some a0)) fun v63_49 =>
kv (gdV v62_48 true (aNil v63_49)) fun v64_50 =>
kv (gdV v62_48 true (fieldAddrD (some 6) v64_50)) fun v65_51 =>
kv (gdV v62_48 true (ldD .one v65_51 h)) fun v66_52 =>
kv (gdV v62_48 true (some a1)) fun v67_53 =>
kv (gdV v62_48 true (aNil v67_53)) fun v68_54 =>
kv (gdV v62_48 true (fieldAddrD (some 6) v68_54)) fun v69_55 =>
kv (gdV v62_48 true (ldD .one v69_55 h)) fun v70_56 =>
kv (gdV v62_48 true (binD .bad .neq false v66_52 v70_56 h)) fun v71_57 =>
kv (gdV v55_42 false (pickV v62_48 v71_57 (.bool false))) fun v72_58 =>
kv (pickV v55_42 (.bool true) v72_58) fun v73_59 =>
ifV v73_59 (
K (.bool false) h) (
∃ (Inv60 : Nat → List V → AHeap → Prop) (n60 : Nat), Inv60 n60 [(.int .i64 0)] h ∧ ∀ (n60 : Nat) (e60 : Nat → V) (h : AHeap), Inv60 n60 [(e60 5)] h →
kv (aNil a0) fun v76_61 =>
kv (fieldAddrD (some 2) v76_61) fun v77_62 =>
kv (ldD .one v77_62 h) fun v78_63 =>
kv (lenD .slice v78_63 h) fun v79_64 =>
kv (binD .bad .lss false (e60 5) v79_64 h) fun v80_65 =>
ifV v80_65 (
kv (aNil a0) fun v84_66 =>
kv (fieldAddrD (some 2) v84_66) fun v85_67 =>
kv (ldD .one v85_67 h) fun v86_68 =>
kv (indexAddrD (.slice 3) v86_68 (e60 5)) fun v88_69 =>
kv (ldD (.agg 3) v88_69 h) fun v89_70 =>
kv (aNil a1) fun v91_71 =>
kv (fieldAddrD (some 2) v91_71) fun v92_72 =>
kv (ldD .one v92_72 h) fun v93_73 =>
kv (indexAddrD (.slice 3) v93_73 (e60 5)) fun v95_74 =>
kv (ldD (.agg 3) v95_74 h) fun v96_75 =>
kv (binD (.struct [(0, .string), (1, .string), (2, .int)]) .neq false v89_70 v96_75 h) fun v97_76 =>
ifV v97_76 (
K (.bool false) h) (
kv (binD .bad .add true (e60 5) (.int .i64 1) h) fun v82_77 =>
∃ m, m < n60 ∧ Inv60 m [v82_77] h)) (
∃ (Inv78 : Nat → List V → AHeap → Prop) (n78 : Nat), Inv78 n78 [(.int .i64 0)] h ∧ ∀ (n78 : Nat) (e78 : Nat → V) (h : AHeap), Inv78 n78 [(e78 6)] h →
kv (aNil a0) fun v100_79 =>
kv (fieldAddrD (some 4) v100_79) fun v101_80 =>
kv (ldD .one v101_80 h) fun v102_81 =>
kv (lenD .slice v102_81 h) fun v103_82 =>
kv (binD .bad .lss false (e78 6) v103_82 h) fun v104_83 =>
ifV v104_83 (
kv (aNil a0) fun v108_84 =>
kv (fieldAddrD (some 4) v108_84) fun v109_85 =>
kv (ldD .one v109_85 h) fun v110_86 =>
kv (indexAddrD (.slice 4) v110_86 (e78 6)) fun v112_87 =>
kv (ldD (.agg 4) v112_87 h) fun v113_88 =>
kv (aNil a1) fun v115_89 =>
kv (fieldAddrD (some 4) v115_89) fun v116_90 =>
kv (ldD .one v116_90 h) fun v117_91 =>
kv (indexAddrD (.slice 4) v117_91 (e78 6)) fun v119_92 =>
kv (ldD (.agg 4) v119_92 h) fun v120_93 =>
kv (binD (.struct [(0, .int), (1, .string), (2, .int), (3, .int)]) .neq false v113_88 v120_93 h) fun v121_94 =>
ifV v121_94 (
K (.bool false) h) (
kv (binD .bad .add true (e78 6) (.int .i64 1) h) fun v106_95 =>
∃ m, m < n78 ∧ Inv78 m [v106_95] h)) (
∃ (Inv96 : Nat → List V → AHeap → Prop) (n96 : Nat), Inv96 n96 [(.int .i64 0)] h ∧ ∀ (n96 : Nat) (e96 : Nat → V) (h : AHeap), Inv96 n96 [(e96 7)] h →
kv (aNil a0) fun v124_97 =>
kv (fieldAddrD (some 5) v124_97) fun v125_98 =>
kv (ldD .one v125_98 h) fun v126_99 =>
kv (lenD .slice v126_99 h) fun v127_100 =>
kv (binD .bad .lss false (e96 7) v127_100 h) fun v128_101 =>
ifV v128_101 (
kv (aNil a0) fun v132_102 =>
kv (fieldAddrD (some 5) v132_102) fun v133_103 =>
kv (ldD .one v133_103 h) fun v134_104 =>
kv (indexAddrD (.slice 4) v134_104 (e96 7)) fun v136_105 =>
kv (ldD (.agg 4) v136_105 h) fun v137_106 =>
kv (aNil a1) fun v139_107 =>
kv (fieldAddrD (some 5) v139_107) fun v140_108 =>
kv (ldD .one v140_108 h) fun v141_109 =>
kv (indexAddrD (.slice 4) v141_109 (e96 7)) fun v143_110 =>
kv (ldD (.agg 4) v143_110 h) fun v144_111 =>
kv (binD (.struct [(0, .int), (1, .string), (2, .int), (3, .int)]) .neq false v137_106 v144_111 h) fun v145_112 =>
ifV v145_112 (
K (.bool false) h) (
kv (binD .bad .add true (e96 7) (.int .i64 1) h) fun v130_113 =>
∃ m, m < n96 ∧ Inv96 m [v130_113] h)) (
K (.bool true) h))))
| _ => False

/-- estafette/estafettelaw8.SpaceAll -/
def F.estafettelaw8_SpaceAll (E : FE) : Spec := fun args h K => match args with
| [a0, a1, a2, a3] =>
cl (F.estafettelaw8_begun E) [] h fun v21_0 h =>
kv (aUn .not v21_0) fun v23_1 =>
ifV v23_1 (
K (.bool false) h) (
kv (binD .bad .rem true a0 (.int .i64 3) h) fun v25_2 =>
kv (binD .bad .add true v25_2 (.int .i64 3) h) fun v26_3 =>
kv (binD .bad .rem true v26_3 (.int .i64 3) h) fun v27_4 =>
kv (binD .bad .add true (.int .i64 1) v27_4 h) fun v28_5 =>
cl (F.space_New E) [v28_5, a1] h fun v31_6 h =>
cl (F.estafetteref8_New E) [v28_5, a1] h fun v34_7 h =>
cl (F.space_Space_Clone E) [v31_6] h fun v36_8 h =>
cl (F.estafetteref8_Space_Clone E) [v34_7] h fun v38_9 h =>
∃ (Inv10 : Nat → List V → AHeap → Prop) (n10 : Nat), Inv10 n10 [v36_8, v38_9, (.int .i64 0)] h ∧ ∀ (n10 : Nat) (e10 : Nat → V) (h : AHeap), Inv10 n10 [(e10 12), (e10 13), (e10 14)] h →
kv (lenD .slice a2 h) fun v41_11 =>
kv (binD .bad .lss false (e10 14) v41_11 h) fun v42_12 =>
kv (gdV v42_12 true (some (e10 14))) fun v44_13 =>
kv (gdV v42_12 true (binD .bad .lss true v44_13 (.int .i64 60) h)) fun v45_14 =>
kv (pickV v42_12 v45_14 (.bool false)) fun v46_15 =>
ifV v46_15 (
kv (indexAddrD (.slice 5) a2 (e10 14)) fun v51_16 =>
kv (ldD (.agg 5) v51_16 h) fun v52_17 =>
kP (newD none (.agg #[(.int .i64 0), (.string ⟨#[]⟩), (.string ⟨#[]⟩), (.string ⟨#[]⟩), (.int .i64 0)]) h) fun v15_18 h =>
kH (stD (some 5) v15_18 v52_17 h) fun _ h =>
kv (fieldAddrD (some 2) v15_18) fun v53_19 =>
kv (ldD .one v53_19 h) fun v54_20 =>
kv (fieldAddrD (some 2) v15_18) fun v55_21 =>
kv (ldD .one v55_21 h) fun v56_22 =>
kv (lenD .str v56_22 h) fun v57_23 =>
kv (aMinMax false [v57_23, (.int .i64 30)]) fun v58_24 =>
kv (sliceD .str v54_20 none (some v58_24) none h) fun v59_25 =>
kv (fieldAddrD (some 3) v15_18) fun v60_26 =>
kv (ldD .one v60_26 h) fun v61_27 =>
kv (fieldAddrD (some 3) v15_18) fun v62_28 =>
kv (ldD .one v62_28 h) fun v63_29 =>
kv (lenD .str v63_29 h) fun v64_30 =>
kv (aMinMax false [v64_30, (.int .i64 120)]) fun v65_31 =>
kv (sliceD .str v61_27 none (some v65_31) none h) fun v66_32 =>
kv (fieldAddrD (some 2) v15_18) fun v67_33 =>
kH (stD (some 1) v67_33 v59_25 h) fun _ h =>
sliceD .str v61_27 none (some v65_31) none h = some v66_32 ∧
kv (fieldAddrD (some 3) v15_18) fun v68_34 =>
kH (stD (some 1) v68_34 v66_32 h) fun _ h =>
kv (lenD .slice a3 h) fun v72_35 =>
kv (binD .bad .lss false (e10 14) v72_35 h) fun v73_36 =>
kv (gdV v73_36 true (some a3)) fun v75_37 =>
kv (gdV v73_36 true (some (e10 14))) fun v76_38 =>
kv (gdV v73_36 true (indexAddrD (.slice 1) v75_37 v76_38)) fun v77_39 =>
kv (gdV v73_36 true (ldD .one v77_39 h)) fun v78_40 =>
kv (gdV v73_36 true (binD .bad .geq true v78_40 (.int .i64 0) h)) fun v79_41 =>
kv (pickV v73_36 v79_41 (.bool false)) fun v80_42 =>
kv (gdV v80_42 true (some a3)) fun v82_43 =>
kv (gdV v80_42 true (some (e10 14))) fun v83_44 =>
kv (gdV v80_42 true (indexAddrD (.slice 1) v82_43 v83_44)) fun v84_45 =>
kv (gdV v80_42 true (ldD .one v84_45 h)) fun v85_46 =>
kv (gdV v80_42 true (binD .bad .leq true v85_46 (.int .i64 1099511627776) h)) fun v86_47 =>
kv (pickV v80_42 v86_47 (.bool false)) fun v87_48 =>
∃ K49 : List V → AHeap → Prop, (
ifV v87_48 (
kv (indexAddrD (.slice 1) a3 (e10 14)) fun v90_50 =>
kv (ldD .one v90_50 h) fun v91_51 =>
K49 [v91_51] h) (
K49 [(e10 14)] h)) ∧ ∀ (e49 : Nat → V) (h : AHeap), K49 [(e49 16)] h →
kv (fieldAddrD (some 4) v15_18) fun v92_52 =>
kv (ldD .one v92_52 h) fun v93_53 =>
kv (binD .bad .lss true v93_53 (.int .i64 0) h) fun v94_54 =>
kv (gdV v94_54 false (fieldAddrD (some 4) v15_18)) fun v96_55 =>
kv (gdV v94_54 false (ldD .one v96_55 h)) fun v97_56 =>
kv (gdV v94_54 false (binD .bad .gtr true v97_56 (.int .i64 1099511627776) h)) fun v98_57 =>
kv (pickV v94_54 (.bool true) v98_57) fun v99_58 =>
ifV v99_58 (
kv (binD .bad .add true (e10 14) (.int .i64 1) h) fun v48_59 =>
∃ m, m < n10 ∧ Inv10 m [(e10 12), (e10 13), v48_59] h) (
kv (ldD (.agg 5) v15_18 h) fun v102_60 =>
cl (F.space_Space_Do E) [v31_6, v102_60, (e49 16)] h fun v104_61 h =>
kv (aExtract v104_61 0) fun v105_62 =>
kv (aExtract v104_61 1) fun v106_63 =>
kv (ldD (.agg 5) v15_18 h) fun v109_64 =>
cl (F.estafetteref8_Space_Do E) [v34_7, v109_64, (e49 16)] h fun v111_65 h =>
kv (aExtract v111_65 0) fun v112_66 =>
kv (aExtract v111_65 1) fun v113_67 =>
kv (binD .bad .neq false v105_62 v112_66 h) fun v116_68 =>
kv (gdV v116_68 false (some v106_63)) fun v118_69 =>
kv (gdV v116_68 false (some v113_67)) fun v119_70 =>
kv (gdV v116_68 false (binD .bad .neq false v118_69 v119_70 h)) fun v120_71 =>
kv (pickV v116_68 (.bool true) v120_71) fun v121_72 =>
kv (gdV v121_72 false (some v31_6)) fun v123_73 =>
kv (gdV v121_72 false (some v34_7)) fun v124_74 =>
gdC v121_72 false h (fun K75 => cl (F.estafettelaw8_Same E) [v123_73, v124_74] h fun v h => K75 v h) fun v125_76 h =>
kv (gdV v121_72 false (aUn .not v125_76)) fun v126_77 =>
kv (pickV v121_72 (.bool true) v126_77) fun v127_78 =>
kv (gdV v127_78 false (some (e10 12))) fun v129_79 =>
kv (gdV v127_78 false (some (e10 13))) fun v130_80 =>
gdC v127_78 false h (fun K81 => cl (F.estafettelaw8_Same E) [v129_79, v130_80] h fun v h => K81 v h) fun v131_82 h =>
kv (gdV v127_78 false (aUn .not v131_82)) fun v132_83 =>
kv (pickV v127_78 (.bool true) v132_83) fun v133_84 =>
kv (gdV v133_84 false (some v31_6)) fun v135_85 =>
kv (gdV v133_84 false (some (e10 12))) fun v136_86 =>
gdC v133_84 false h (fun K87 => cl (F.space_Space_Eq E) [v135_85, v136_86] h fun v h => K87 v h) fun v137_88 h =>
kv (gdV v133_84 false (some v34_7)) fun v138_89 =>
kv (gdV v133_84 false (some (e10 13))) fun v139_90 =>
gdC v133_84 false h (fun K91 => cl (F.estafetteref8_Space_Eq E) [v138_89, v139_90] h fun v h => K91 v h) fun v140_92 h =>
kv (gdV v133_84 false (binD .bool .neq false v137_88 v140_92 h)) fun v141_93 =>
kv (pickV v133_84 (.bool true) v141_93) fun v142_94 =>
ifV v142_94 (
K (.bool false) h) (
kv (binD .bad .rem true (e10 14) (.int .i64 7) h) fun v144_95 =>
kv (binD .bad .eql true v144_95 (.int .i64 3) h) fun v145_96 =>
ifV v145_96 (
cl (F.space_Space_Clone E) [v31_6] h fun v147_97 h =>
cl (F.estafetteref8_Space_Clone E) [v34_7] h fun v149_98 h =>
kv (binD .bad .add true (e10 14) (.int .i64 1) h) fun v48_99 =>
∃ m, m < n10 ∧ Inv10 m [v147_97, v149_98, v48_99] h) (
kv (binD .bad .add true (e10 14) (.int .i64 1) h) fun v48_100 =>
∃ m, m < n10 ∧ Inv10 m [(e10 12), (e10 13), v48_100] h)))) (
cl (F.space_Space_Clone E) [v31_6] h fun v152_101 h =>
cl (F.space_Space_Eq E) [v31_6, v152_101] h fun v153_102 h =>
K v153_102 h))
| _ => False

/-- estafette/estafettelaw8.SpaceErrors -/
def F.estafettelaw8_SpaceErrors (E : FE) : Spec := fun args h K => match args with
| [a0, a1, a2] =>
kP (newD none a2 h) fun v5_0 h =>
cl (F.estafettelaw8_begun E) [] h fun v13_1 h =>
kv (aUn .not v13_1) fun v15_2 =>
ifV v15_2 (
K (.bool false) h) (
kv (binD .bad .rem true a0 (.int .i64 3) h) fun v17_3 =>
kv (binD .bad .add true v17_3 (.int .i64 3) h) fun v18_4 =>
kv (binD .bad .rem true v18_4 (.int .i64 3) h) fun v19_5 =>
kv (binD .bad .add true (.int .i64 1) v19_5 h) fun v20_6 =>
cl (F.space_New E) [v20_6, (.int .i64 2)] h fun v22_7 h =>
∃ (Inv8 : Nat → List V → AHeap → Prop) (n8 : Nat), Inv8 n8 [(.int .i64 0)] h ∧ ∀ (n8 : Nat) (e8 : Nat → V) (h : AHeap), Inv8 n8 [(e8 9)] h →
kv (lenD .slice a1 h) fun v25_9 =>
kv (binD .bad .lss false (e8 9) v25_9 h) fun v26_10 =>
kv (gdV v26_10 true (some (e8 9))) fun v28_11 =>
kv (gdV v26_10 true (binD .bad .lss true v28_11 (.int .i64 30) h)) fun v29_12 =>
kv (pickV v26_10 v29_12 (.bool false)) fun v30_13 =>
ifV v30_13 (
kv (indexAddrD (.slice 5) a1 (e8 9)) fun v35_14 =>
kv (fieldAddrD (some 4) v35_14) fun v36_15 =>
kv (ldD .one v36_15 h) fun v37_16 =>
kv (binD .bad .geq true v37_16 (.int .i64 0) h) fun v38_17 =>
kv (gdV v38_17 true (some a1)) fun v40_18 =>
kv (gdV v38_17 true (some (e8 9))) fun v41_19 =>
kv (gdV v38_17 true (indexAddrD (.slice 5) v40_18 v41_19)) fun v42_20 =>
kv (gdV v38_17 true (fieldAddrD (some 4) v42_20)) fun v43_21 =>
kv (gdV v38_17 true (ldD .one v43_21 h)) fun v44_22 =>
kv (gdV v38_17 true (binD .bad .leq true v44_22 (.int .i64 1099511627776) h)) fun v45_23 =>
kv (pickV v38_17 v45_23 (.bool false)) fun v46_24 =>
ifV v46_24 (
kv (indexAddrD (.slice 5) a1 (e8 9)) fun v50_25 =>
kv (ldD (.agg 5) v50_25 h) fun v51_26 =>
cl (F.space_Space_Do E) [v22_7, v51_26, (e8 9)] h fun v53_27 h =>
kv (binD .bad .add true (e8 9) (.int .i64 1) h) fun v32_28 =>
∃ m, m < n8 ∧ Inv8 m [v32_28] h) (
kv (binD .bad .add true (e8 9) (.int .i64 1) h) fun v32_29 =>
∃ m, m < n8 ∧ Inv8 m [v32_29] h)) (
cl (F.space_Space_Clone E) [v22_7] h fun v55_30 h =>
kv (fieldAddrD (some 4) v5_0) fun v56_31 =>
kv (ldD .one v56_31 h) fun v57_32 =>
kv (binD .bad .lss true v57_32 (.int .i64 0) h) fun v58_33 =>
kv (gdV v58_33 false (fieldAddrD (some 4) v5_0)) fun v60_34 =>
kv (gdV v58_33 false (ldD .one v60_34 h)) fun v61_35 =>
kv (gdV v58_33 false (binD .bad .gtr true v61_35 (.int .i64 1099511627776) h)) fun v62_36 =>
kv (pickV v58_33 (.bool true) v62_36) fun v63_37 =>
ifV v63_37 (
cl (F.space_Space_Eq E) [v22_7, v55_30] h fun v66_38 h =>
K v66_38 h) (
kv (ldD (.agg 5) v5_0 h) fun v69_39 =>
cl (F.space_Space_Do E) [v22_7, v69_39, (.int .i64 40)] h fun v70_40 h =>
kv (aExtract v70_40 0) fun v71_41 =>
kv (aExtract v70_40 1) fun v72_42 =>
kv (binD .bad .eql true v72_42 (.int .i64 0) h) fun v74_43 =>
kv (gdV v74_43 false (some v22_7)) fun v76_44 =>
kv (gdV v74_43 false (some v55_30)) fun v77_45 =>
gdC v74_43 false h (fun K46 => cl (F.space_Space_Eq E) [v76_44, v77_45] h fun v h => K46 v h) fun v78_47 h =>
kv (pickV v74_43 (.bool true) v78_47) fun v79_48 =>
K v79_48 h)))
| _ => False

/-- estafette/estafettelaw8.TableLast -/
def F.estafettelaw8_TableLast (E : FE) : Spec := fun args h K => match args with
| [a0, a1] =>
cl (F.estafettelaw8_begun E) [] h fun v13_0 h =>
kv (aUn .not v13_0) fun v15_1 =>
ifV v15_1 (
K (.bool false) h) (
cl (F.table_New E) [] h fun v16_2 h =>
∃ (Inv3 : Nat → List V → AHeap → Prop) (n3 : Nat), Inv3 n3 [(.string ⟨#[]⟩), (.bool false), (.int .i64 0)] h ∧ ∀ (n3 : Nat) (e3 : Nat → V) (h : AHeap), Inv3 n3 [(e3 7), (e3 8), (e3 9)] h →
kv (lenD .slice a0 h) fun v19_4 =>
kv (binD .bad .lss false (e3 9) v19_4 h) fun v20_5 =>
kv (gdV v20_5 true (some (e3 9))) fun v22_6 =>
kv (gdV v20_5 true (binD .bad .lss true v22_6 (.int .i64 60) h)) fun v23_7 =>
kv (pickV v20_5 v23_7 (.bool false)) fun v24_8 =>
ifV v24_8 (
kv (indexAddrD (.slice 6) a0 (e3 9)) fun v29_9 =>
kv (ldD (.agg 6) v29_9 h) fun v30_10 =>
kP (newD none (.agg #[(.int .i64 0), (.string ⟨#[]⟩), (.string ⟨#[]⟩), (.int .i64 0), (.int .i64 0), (.int .i64 0)]) h) fun v10_11 h =>
kH (stD (some 6) v10_11 v30_10 h) fun _ h =>
kv (fieldAddrD (some 0) v10_11) fun v32_12 =>
kv (ldD .one v32_12 h) fun v33_13 =>
kv (binD .bad .leq true v33_13 (.int .i64 1) h) fun v34_14 =>
ifV v34_14 (
kv (fieldAddrD (some 1) v10_11) fun v36_15 =>
kv (ldD .one v36_15 h) fun v37_16 =>
kv (fieldAddrD (some 2) v10_11) fun v38_17 =>
kv (ldD .one v38_17 h) fun v39_18 =>
cl (F.table_Table_Put E) [v16_2, v37_16, v39_18] h fun v40_19 h =>
kv (binD .bool .eql false v40_19 (e3 8) h) fun v42_20 =>
kv (gdV v42_20 true (fieldAddrD (some 1) v10_11)) fun v44_21 =>
kv (gdV v42_20 true (ldD .one v44_21 h)) fun v45_22 =>
kv (gdV v42_20 true (some a1)) fun v46_23 =>
kv (gdV v42_20 true (binD .bad .eql false v45_22 v46_23 h)) fun v47_24 =>
kv (pickV v42_20 v47_24 (.bool false)) fun v48_25 =>
ifV v48_25 (
K (.bool false) h) (
kv (fieldAddrD (some 1) v10_11) fun v49_26 =>
kv (ldD .one v49_26 h) fun v50_27 =>
kv (binD .bad .eql false v50_27 a1 h) fun v52_28 =>
ifV v52_28 (
kv (fieldAddrD (some 2) v10_11) fun v53_29 =>
kv (ldD .one v53_29 h) fun v54_30 =>
kv (binD .bad .add true (e3 9) (.int .i64 1) h) fun v26_31 =>
∃ m, m < n3 ∧ Inv3 m [v54_30, (.bool true), v26_31] h) (
kv (binD .bad .add true (e3 9) (.int .i64 1) h) fun v26_32 =>
∃ m, m < n3 ∧ Inv3 m [(e3 7), (e3 8), v26_32] h))) (
kv (fieldAddrD (some 0) v10_11) fun v56_33 =>
kv (ldD .one v56_33 h) fun v57_34 =>
kv (binD .bad .eql true v57_34 (.int .i64 2) h) fun v58_35 =>
ifV v58_35 (
kv (fieldAddrD (some 1) v10_11) fun v60_36 =>
kv (ldD .one v60_36 h) fun v61_37 =>
cl (F.table_Table_Del E) [v16_2, v61_37] h fun v62_38 h =>
kv (binD .bool .neq false v62_38 (e3 8) h) fun v64_39 =>
kv (gdV v64_39 true (fieldAddrD (some 1) v10_11)) fun v66_40 =>
kv (gdV v64_39 true (ldD .one v66_40 h)) fun v67_41 =>
kv (gdV v64_39 true (some a1)) fun v68_42 =>
kv (gdV v64_39 true (binD .bad .eql false v67_41 v68_42 h)) fun v69_43 =>
kv (pickV v64_39 v69_43 (.bool false)) fun v70_44 =>
ifV v70_44 (
K (.bool false) h) (
kv (fieldAddrD (some 1) v10_11) fun v71_45 =>
kv (ldD .one v71_45 h) fun v72_46 =>
kv (binD .bad .eql false v72_46 a1 h) fun v74_47 =>
ifV v74_47 (
kv (binD .bad .add true (e3 9) (.int .i64 1) h) fun v26_48 =>
∃ m, m < n3 ∧ Inv3 m [(.string ⟨#[]⟩), (.bool false), v26_48] h) (
kv (binD .bad .add true (e3 9) (.int .i64 1) h) fun v26_49 =>
∃ m, m < n3 ∧ Inv3 m [(e3 7), (e3 8), v26_49] h))) (
kv (binD .bad .add true (e3 9) (.int .i64 1) h) fun v26_50 =>
∃ m, m < n3 ∧ Inv3 m [(e3 7), (e3 8), v26_50] h))) (
cl (F.table_Table_Get E) [v16_2, a1] h fun v78_51 h =>
kv (aExtract v78_51 0) fun v79_52 =>
kv (aExtract v78_51 1) fun v80_53 =>
kv (binD .bad .eql false v79_52 (e3 7) h) fun v83_54 =>
kv (gdV v83_54 true (some v80_53)) fun v85_55 =>
kv (gdV v83_54 true (some (e3 8))) fun v86_56 =>
kv (gdV v83_54 true (binD .bool .eql false v85_55 v86_56 h)) fun v87_57 =>
kv (pickV v83_54 v87_57 (.bool false)) fun v88_58 =>
K v88_58 h))
| _ => False

/-- estafette/estafettelaw8.QueueAgain -/
def F.estafettelaw8_QueueAgain (E : FE) : Spec := fun args h K => match args with
| [a0, a1] =>
cl (F.estafettelaw8_begun E) [] h fun v19_0 h =>
kv (aUn .not v19_0) fun v21_1 =>
ifV v21_1 (
K (.bool false) h) (
kv (binD .bad .and true a0 (.int .i64 7) h) fun v23_2 =>
kv (binD .bad .add true (.int .i64 1) v23_2 h) fun v24_3 =>
kv (binD .bad .and true a1 (.int .i64 127) h) fun v26_4 =>
kv (binD .bad .add true (.int .i64 1) v26_4 h) fun v27_5 =>
cl (F.queue_New E) [v24_3] h fun v29_6 h =>
cl (F.queue_Queue_Send E) [v29_6, (.string ⟨#[109]⟩)] h fun v31_7 h =>
∃ (Inv8 : Nat → List V → AHeap → Prop) (n8 : Nat), Inv8 n8 [(.int .i64 0), (.int .i64 1)] h ∧ ∀ (n8 : Nat) (e8 : Nat → V) (h : AHeap), Inv8 n8 [(e8 7), (e8 8)] h →
kv (binD .bad .leq false (e8 8) v24_3 h) fun v34_9 =>
ifV v34_9 (
cl (F.queue_Queue_Recv E) [v29_6, (e8 7), v27_5] h fun v41_10 h =>
kv (aExtract v41_10 0) fun v42_11 =>
kv (aExtract v41_10 1) fun v43_12 =>
kP (newD none (.agg #[(.int .i64 0), (.string ⟨#[]⟩), (.int .i64 0), (.int .i64 0)]) h) fun v9_13 h =>
kH (stD (some 4) v9_13 v42_11 h) fun _ h =>
kv (binD .bad .add false (e8 7) v27_5 h) fun v48_14 =>
kv (binD .bad .sub true v48_14 (.int .i64 1) h) fun v49_15 =>
cl (F.queue_Queue_Recv E) [v29_6, v49_15, v27_5] h fun v51_16 h =>
kv (aExtract v51_16 0) fun v52_17 =>
kv (aExtract v51_16 1) fun v53_18 =>
kP (newD none (.agg #[(.int .i64 0), (.string ⟨#[]⟩), (.int .i64 0), (.int .i64 0)]) h) fun v11_19 h =>
kH (stD (some 4) v11_19 v52_17 h) fun _ h =>
kv (aUn .not v43_12) fun v55_20 =>
kv (gdV v55_20 false (fieldAddrD (some 0) v9_13)) fun v57_21 =>
kv (gdV v55_20 false (ldD .one v57_21 h)) fun v58_22 =>
kv (gdV v55_20 false (binD .bad .neq true v58_22 (.int .i64 1) h)) fun v59_23 =>
kv (pickV v55_20 (.bool true) v59_23) fun v60_24 =>
kv (gdV v60_24 false (fieldAddrD (some 2) v9_13)) fun v62_25 =>
kv (gdV v60_24 false (ldD .one v62_25 h)) fun v63_26 =>
kv (gdV v60_24 false (some (e8 8))) fun v64_27 =>
kv (gdV v60_24 false (binD .bad .neq false v63_26 v64_27 h)) fun v65_28 =>
kv (pickV v60_24 (.bool true) v65_28) fun v66_29 =>
kv (gdV v66_29 false (fieldAddrD (some 1) v9_13)) fun v68_30 =>
kv (gdV v66_29 false (ldD .one v68_30 h)) fun v69_31 =>
kv (gdV v66_29 false (binD .bad .neq true v69_31 (.string ⟨#[109]⟩) h)) fun v70_32 =>
kv (pickV v66_29 (.bool true) v70_32) fun v71_33 =>
kv (gdV v71_33 false (some v53_18)) fun v73_34 =>
kv (pickV v71_33 (.bool true) v73_34) fun v74_35 =>
kv (gdV v74_35 false (some v29_6)) fun v76_36 =>
gdC v74_35 false h (fun K37 => cl (F.queue_Queue_Lost E) [v76_36] h fun v h => K37 v h) fun v77_38 h =>
kv (gdV v74_35 false (lenD .slice v77_38 h)) fun v78_39 =>
kv (gdV v74_35 false (binD .bad .neq true v78_39 (.int .i64 0) h)) fun v79_40 =>
kv (pickV v74_35 (.bool true) v79_40) fun v80_41 =>
ifV v80_41 (
K (.bool false) h) (
kv (binD .bad .add false (e8 7) v27_5 h) fun v83_42 =>
kv (binD .bad .add true (e8 8) (.int .i64 1) h) fun v36_43 =>
∃ m, m < n8 ∧ Inv8 m [v83_42, v36_43] h)) (
cl (F.queue_Queue_Recv E) [v29_6, (e8 7), v27_5] h fun v88_44 h =>
kv (aExtract v88_44 0) fun v89_45 =>
kv (aExtract v88_44 1) fun v90_46 =>
kP (newD none (.agg #[(.int .i64 0), (.string ⟨#[]⟩), (.int .i64 0), (.int .i64 0)]) h) fun v13_47 h =>
kH (stD (some 4) v13_47 v89_45 h) fun _ h =>
cl (F.queue_Queue_Dead E) [v29_6] h fun v93_48 h =>
kv (aExtract v93_48 0) fun v94_49 =>
kv (aExtract v93_48 1) fun v95_50 =>
kP (newD none (.agg #[(.int .i64 0), (.string ⟨#[]⟩), (.int .i64 0), (.int .i64 0)]) h) fun v15_51 h =>
kH (stD (some 4) v15_51 v94_49 h) fun _ h =>
cl (F.queue_Queue_Dead E) [v29_6] h fun v98_52 h =>
kv (aExtract v98_52 0) fun v99_53 =>
kv (aExtract v98_52 1) fun v100_54 =>
kP (newD none (.agg #[(.int .i64 0), (.string ⟨#[]⟩), (.int .i64 0), (.int .i64 0)]) h) fun v17_55 h =>
kH (stD (some 4) v17_55 v99_53 h) fun _ h =>
kv (aUn .not v90_46) fun v102_56 =>
kv (gdV v102_56 true (some v95_50)) fun v104_57 =>
kv (pickV v102_56 v104_57 (.bool false)) fun v105_58 =>
kv (gdV v105_58 true (fieldAddrD (some 0) v15_51)) fun v107_59 =>
kv (gdV v105_58 true (ldD .one v107_59 h)) fun v108_60 =>
kv (gdV v105_58 true (binD .bad .eql true v108_60 (.int .i64 1) h)) fun v109_61 =>
kv (pickV v105_58 v109_61 (.bool false)) fun v110_62 =>
kv (gdV v110_62 true (fieldAddrD (some 2) v15_51)) fun v112_63 =>
kv (gdV v110_62 true (ldD .one v112_63 h)) fun v113_64 =>
kv (gdV v110_62 true (some v24_3)) fun v114_65 =>
kv (gdV v110_62 true (binD .bad .eql false v113_64 v114_65 h)) fun v115_66 =>
kv (pickV v110_62 v115_66 (.bool false)) fun v116_67 =>
kv (gdV v116_67 true (some v100_54)) fun v118_68 =>
kv (gdV v116_67 true (aUn .not v118_68)) fun v119_69 =>
kv (pickV v116_67 v119_69 (.bool false)) fun v120_70 =>
kv (gdV v120_70 true (some v29_6)) fun v122_71 =>
gdC v120_70 true h (fun K72 => cl (F.queue_Queue_Items E) [v122_71] h fun v h => K72 v h) fun v123_73 h =>
kv (gdV v120_70 true (lenD .slice v123_73 h)) fun v124_74 =>
kv (gdV v120_70 true (binD .bad .eql true v124_74 (.int .i64 0) h)) fun v125_75 =>
kv (pickV v120_70 v125_75 (.bool false)) fun v126_76 =>
kv (gdV v126_76 true (some v29_6)) fun v128_77 =>
gdC v126_76 true h (fun K78 => cl (F.queue_Queue_Lost E) [v128_77] h fun v h => K78 v h) fun v129_79 h =>
kv (gdV v126_76 true (lenD .slice v129_79 h)) fun v130_80 =>
kv (gdV v126_76 true (binD .bad .eql true v130_80 (.int .i64 0) h)) fun v131_81 =>
kv (pickV v126_76 v131_81 (.bool false)) fun v132_82 =>
K v132_82 h))
| _ => False

/-- estafette/estafettelaw8.one -/
def F.estafettelaw8_one (E : FE) : Spec := fun args h K => match args with
| [a0] =>
ifV a0 (
K (.int .i64 1) h) (
K (.int .i64 0) h)
| _ => False

/-- estafette/estafettelaw8.QueueToken -/
def F.estafettelaw8_QueueToken (E : FE) : Spec := fun args h K => match args with
| [a0, a1, a2] =>
cl (F.estafettelaw8_begun E) [] h fun v14_0 h =>
kv (aUn .not v14_0) fun v16_1 =>
ifV v16_1 (
K (.bool false) h) (
cl (F.queue_New E) [(.int .i64 9)] h fun v17_2 h =>
cl (F.queue_Queue_Send E) [v17_2, (.string ⟨#[120]⟩)] h fun v19_3 h =>
cl (F.queue_Queue_Recv E) [v17_2, (.int .i64 10), (.int .i64 5)] h fun v22_4 h =>
kv (aExtract v22_4 0) fun v23_5 =>
kv (aExtract v22_4 1) fun v24_6 =>
kP (newD none (.agg #[(.int .i64 0), (.string ⟨#[]⟩), (.int .i64 0), (.int .i64 0)]) h) fun v9_7 h =>
kH (stD (some 4) v9_7 v23_5 h) fun _ h =>
cl (F.queue_Queue_Recv E) [v17_2, (.int .i64 15), (.int .i64 5)] h fun v27_8 h =>
kv (aExtract v27_8 0) fun v28_9 =>
kv (aExtract v27_8 1) fun v29_10 =>
kP (newD none (.agg #[(.int .i64 0), (.string ⟨#[]⟩), (.int .i64 0), (.int .i64 0)]) h) fun v11_11 h =>
kH (stD (some 4) v11_11 v28_9 h) fun _ h =>
kv (aUn .not v24_6) fun v31_12 =>
kv (gdV v31_12 false (some v29_10)) fun v33_13 =>
kv (gdV v31_12 false (aUn .not v33_13)) fun v34_14 =>
kv (pickV v31_12 (.bool true) v34_14) fun v35_15 =>
ifV v35_15 (
K (.bool false) h) (
kv (binD .bad .and true a2 (.int .i64 31) h) fun v37_16 =>
kv (binD .bad .and true a0 (.int .i64 3) h) fun v39_17 =>
kv (binD .bad .and true a1 (.int .i64 3) h) fun v41_18 =>
kv (binD .bad .eql true v39_17 (.int .i64 1) h) fun v43_19 =>
kv (gdV v43_19 true (some v41_18)) fun v45_20 =>
kv (gdV v43_19 true (fieldAddrD (some 2) v11_11)) fun v46_21 =>
kv (gdV v43_19 true (ldD .one v46_21 h)) fun v47_22 =>
kv (gdV v43_19 true (binD .bad .eql false v45_20 v47_22 h)) fun v48_23 =>
kv (pickV v43_19 v48_23 (.bool false)) fun v49_24 =>
kv (gdV v49_24 true (some v37_16)) fun v51_25 =>
kv (gdV v49_24 true (fieldAddrD (some 3) v11_11)) fun v52_26 =>
kv (gdV v49_24 true (ldD .one v52_26 h)) fun v53_27 =>
kv (gdV v49_24 true (binD .bad .lss false v51_25 v53_27 h)) fun v54_28 =>
kv (pickV v49_24 v54_28 (.bool false)) fun v55_29 =>
kv (fieldAddrD (some 2) v9_7) fun v56_30 =>
kv (ldD .one v56_30 h) fun v57_31 =>
kv (binD .bad .eql true v57_31 (.int .i64 1) h) fun v58_32 =>
kv (gdV v58_32 true (fieldAddrD (some 2) v11_11)) fun v60_33 =>
kv (gdV v58_32 true (ldD .one v60_33 h)) fun v61_34 =>
kv (gdV v58_32 true (binD .bad .eql true v61_34 (.int .i64 2) h)) fun v62_35 =>
kv (pickV v58_32 v62_35 (.bool false)) fun v63_36 =>
kv (gdV v63_36 true (some v17_2)) fun v65_37 =>
kv (gdV v63_36 true (some v39_17)) fun v66_38 =>
kv (gdV v63_36 true (some v41_18)) fun v67_39 =>
kv (gdV v63_36 true (some v37_16)) fun v68_40 =>
gdC v63_36 true h (fun K41 => cl (F.queue_Queue_Ack E) [v65_37, v66_38, v67_39, v68_40] h fun v h => K41 v h) fun v69_42 h =>
kv (gdV v63_36 true (some v55_29)) fun v70_43 =>
kv (gdV v63_36 true (binD .bool .eql false v69_42 v70_43 h)) fun v71_44 =>
kv (pickV v63_36 v71_44 (.bool false)) fun v72_45 =>
kv (gdV v72_45 true (some v17_2)) fun v74_46 =>
gdC v72_45 true h (fun K47 => cl (F.queue_Queue_Items E) [v74_46] h fun v h => K47 v h) fun v75_48 h =>
kv (gdV v72_45 true (lenD .slice v75_48 h)) fun v76_49 =>
kv (gdV v72_45 true (some v55_29)) fun v77_50 =>
gdC v72_45 true h (fun K51 => cl (F.estafettelaw8_one E) [v77_50] h fun v h => K51 v h) fun v78_52 h =>
kv (gdV v72_45 true (binD .bad .sub true (.int .i64 1) v78_52 h)) fun v79_53 =>
kv (gdV v72_45 true (binD .bad .eql false v76_49 v79_53 h)) fun v80_54 =>
kv (pickV v72_45 v80_54 (.bool false)) fun v81_55 =>
K v81_55 h))
| _ => False

/-- estafette/estafettelaw8.TopicFetch -/
def F.estafettelaw8_TopicFetch (E : FE) : Spec := fun args h K => match args with
| [a0, a1, a2] =>
cl (F.estafettelaw8_begun E) [] h fun v14_0 h =>
kv (aUn .not v14_0) fun v16_1 =>
ifV v16_1 (
K (.bool false) h) (
kv (lenD .slice a0 h) fun v19_2 =>
kv (aMinMax false [v19_2, (.int .i64 64)]) fun v20_3 =>
kv (sliceD (.slice 1) a0 none (some v20_3) none h) fun v21_4 =>
cl (F.topic_New E) [] h fun v22_5 h =>
∃ (Inv6 : Nat → List V → AHeap → Prop) (n6 : Nat), Inv6 n6 [(.int .i64 0)] h ∧ ∀ (n6 : Nat) (e6 : Nat → V) (h : AHeap), Inv6 n6 [(e6 9)] h →
kv (lenD .slice v21_4 h) fun v25_7 =>
kv (binD .bad .lss false (e6 9) v25_7 h) fun v26_8 =>
ifV v26_8 (
kv (indexAddrD (.slice 1) v21_4 (e6 9)) fun v33_9 =>
kv (ldD .one v33_9 h) fun v34_10 =>
cl (F.topic_Topic_Pub E) [v22_5, v34_10] h fun v35_11 h =>
kv (aExtract v35_11 0) fun v36_12 =>
kv (aExtract v35_11 1) fun v37_13 =>
kv (aUn .not v37_13) fun v39_14 =>
kv (gdV v39_14 false (some v36_12)) fun v41_15 =>
kv (gdV v39_14 false (some (e6 9))) fun v42_16 =>
kv (gdV v39_14 false (binD .bad .neq false v41_15 v42_16 h)) fun v43_17 =>
kv (pickV v39_14 (.bool true) v43_17) fun v44_18 =>
ifV v44_18 (
K (.bool false) h) (
kv (binD .bad .add true (e6 9) (.int .i64 1) h) fun v28_19 =>
∃ m, m < n6 ∧ Inv6 m [v28_19] h)) (
kv (binD .bad .and true a1 (.int .i64 63) h) fun v46_20 =>
cl (F.topic_Topic_Seek E) [v22_5, (.string ⟨#[103]⟩), (.int .i64 0), v46_20] h fun v49_21 h =>
kv (lenD .slice v21_4 h) fun v53_22 =>
kv (binD .bad .leq false v46_20 v53_22 h) fun v54_23 =>
kv (binD .bool .neq false v49_21 v54_23 h) fun v55_24 =>
ifV v55_24 (
K (.bool false) h) (
kv (aUn .not v49_21) fun v57_25 =>
∃ K26 : List V → AHeap → Prop, (
ifV v57_25 (
K26 [(.int .i64 0)] h) (
K26 [v46_20] h)) ∧ ∀ (e26 : Nat → V) (h : AHeap), K26 [(e26 1)] h →
kv (binD .bad .and true a2 (.int .i64 127) h) fun v59_27 =>
kv (binD .bad .sub true v59_27 (.int .i64 8) h) fun v60_28 =>
kv (lenD .slice v21_4 h) fun v63_29 =>
kv (binD .bad .sub false v63_29 (e26 1) h) fun v65_30 =>
kv (aMinMax false [v60_28, v65_30]) fun v66_31 =>
kv (aMinMax true [(.int .i64 0), v66_31]) fun v67_32 =>
kv (binD .bad .add false (e26 1) v67_32 h) fun v75_33 =>
kv (sliceD (.slice 1) v21_4 (some (e26 1)) (some v75_33) none h) fun v76_34 =>
cl (F.topic_Topic_Fetch E) [v22_5, (.string ⟨#[103]⟩), v60_28] h fun v70_35 h =>
sliceD (.slice 1) v21_4 (some (e26 1)) (some v75_33) none h = some v76_34 ∧
cl (F.estafettelaw8_texts E) [v70_35, v76_34] h fun v77_36 h =>
kv (gdV v77_36 true (some v22_5)) fun v79_37 =>
kv (gdV v77_36 true (some v21_4)) fun v81_38 =>
kv (gdV v77_36 true (lenD .slice v81_38 h)) fun v82_39 =>
gdC v77_36 true h (fun K40 => cl (F.topic_Topic_Len E) [v79_37] h fun v h => K40 v h) fun v80_41 h =>
kv (gdV v77_36 true (binD .bad .eql false v80_41 v82_39 h)) fun v83_42 =>
kv (pickV v77_36 v83_42 (.bool false)) fun v84_43 =>
K v84_43 h)))
| _ => False

/-- estafette/estafettelaw8.SpaceKinds -/
def F.estafettelaw8_SpaceKinds (E : FE) : Spec := fun args h K => match args with
| [a0, a1] =>
kP (newD none a1 h) fun v3_0 h =>
cl (F.estafettelaw8_begun E) [] h fun v11_1 h =>
kv (aUn .not v11_1) fun v13_2 =>
ifV v13_2 (
K (.bool false) h) (
kv (binD .bad .rem true a0 (.int .i64 3) h) fun v15_3 =>
kv (binD .bad .add true v15_3 (.int .i64 3) h) fun v16_4 =>
kv (binD .bad .rem true v16_4 (.int .i64 3) h) fun v17_5 =>
kv (binD .bad .add true (.int .i64 1) v17_5 h) fun v18_6 =>
cl (F.space_New E) [v18_6, (.int .i64 3)] h fun v20_7 h =>
kv (fieldAddrD (some 4) v3_0) fun v21_8 =>
kv (ldD .one v21_8 h) fun v22_9 =>
kv (binD .bad .lss true v22_9 (.int .i64 0) h) fun v23_10 =>
kv (gdV v23_10 false (fieldAddrD (some 4) v3_0)) fun v25_11 =>
kv (gdV v23_10 false (ldD .one v25_11 h)) fun v26_12 =>
kv (gdV v23_10 false (binD .bad .gtr true v26_12 (.int .i64 1099511627776) h)) fun v27_13 =>
kv (pickV v23_10 (.bool true) v27_13) fun v28_14 =>
ifV v28_14 (
K (.bool true) h) (
∃ K15 : List V → AHeap → Prop, (
kv (fieldAddrD (some 0) v3_0) fun v30_16 =>
kv (ldD .one v30_16 h) fun v31_17 =>
kv (binD .bad .geq true v31_17 (.int .i64 3) h) fun v32_18 =>
kv (gdV v32_18 true (fieldAddrD (some 0) v3_0)) fun v34_19 =>
kv (gdV v32_18 true (ldD .one v34_19 h)) fun v35_20 =>
kv (gdV v32_18 true (binD .bad .leq true v35_20 (.int .i64 5) h)) fun v36_21 =>
kv (pickV v32_18 v36_21 (.bool false)) fun v37_22 =>
ifV v37_22 (
K15 [(.int .i64 1)] h) (
kv (fieldAddrD (some 0) v3_0) fun v39_23 =>
kv (ldD .one v39_23 h) fun v40_24 =>
kv (binD .bad .geq true v40_24 (.int .i64 6) h) fun v41_25 =>
kv (gdV v41_25 true (fieldAddrD (some 0) v3_0)) fun v43_26 =>
kv (gdV v41_25 true (ldD .one v43_26 h)) fun v44_27 =>
kv (gdV v41_25 true (binD .bad .leq true v44_27 (.int .i64 9) h)) fun v45_28 =>
kv (pickV v41_25 v45_28 (.bool false)) fun v46_29 =>
ifV v46_29 (
K15 [(.int .i64 2)] h) (
kv (fieldAddrD (some 0) v3_0) fun v48_30 =>
kv (ldD .one v48_30 h) fun v49_31 =>
kv (binD .bad .geq true v49_31 (.int .i64 10) h) fun v50_32 =>
kv (gdV v50_32 true (fieldAddrD (some 0) v3_0)) fun v52_33 =>
kv (gdV v50_32 true (ldD .one v52_33 h)) fun v53_34 =>
kv (gdV v50_32 true (binD .bad .leq true v53_34 (.int .i64 12) h)) fun v54_35 =>
kv (pickV v50_32 v54_35 (.bool false)) fun v55_36 =>
ifV v55_36 (
K15 [(.int .i64 3)] h) (
K15 [(.int .i64 0)] h)))) ∧ ∀ (e15 : Nat → V) (h : AHeap), K15 [(e15 7)] h →
cl (F.space_Space_Clone E) [v20_7] h fun v57_37 h =>
kv (ldD (.agg 5) v3_0 h) fun v60_38 =>
cl (F.space_Space_Do E) [v20_7, v60_38, (.int .i64 5)] h fun v61_39 h =>
kv (aExtract v61_39 0) fun v62_40 =>
kv (aExtract v61_39 1) fun v63_41 =>
kv (binD .bad .eql false (e15 7) v18_6 h) fun v66_42 =>
kv (gdV v66_42 false (some v63_41)) fun v68_43 =>
kv (gdV v66_42 false (binD .bad .eql true v68_43 (.int .i64 1) h)) fun v69_44 =>
kv (gdV v66_42 false (some v69_44)) fun v70_45 =>
kv (gdV v70_45 true (some v62_40)) fun v71_46 =>
kv (gdV v70_45 true (binD .bad .eql true v71_46 (.string ⟨#[]⟩) h)) fun v72_47 =>
kv (gdV v66_42 false (pickV v70_45 v72_47 (.bool false))) fun v73_48 =>
kv (gdV v66_42 false (some v73_48)) fun v74_49 =>
kv (gdV v74_49 true (some v20_7)) fun v75_50 =>
kv (gdV v74_49 true (some v57_37)) fun v76_51 =>
gdC v74_49 true h (fun K52 => cl (F.space_Space_Eq E) [v75_50, v76_51] h fun v h => K52 v h) fun v77_53 h =>
kv (gdV v66_42 false (pickV v74_49 v77_53 (.bool false))) fun v78_54 =>
kv (pickV v66_42 (.bool true) v78_54) fun v79_55 =>
K v79_55 h))
| _ => False

/-- estafette/estafettelaw8.SpaceFetch -/
def F.estafettelaw8_SpaceFetch (E : FE) : Spec := fun args h K => match args with
| [a0, a1] =>
cl (F.estafettelaw8_begun E) [] h fun v16_0 h =>
kv (aUn .not v16_0) fun v18_1 =>
ifV v18_1 (
K (.bool false) h) (
cl (F.space_New E) [(.int .i64 3), (.int .i64 1)] h fun v19_2 h =>
kv (binD .bad .and true a1 (.int .i64 15) h) fun v21_3 =>
∃ (Inv4 : Nat → List V → AHeap → Prop) (n4 : Nat), Inv4 n4 [(.string ⟨#[]⟩), (.bool false), (.int .i64 0)] h ∧ ∀ (n4 : Nat) (e4 : Nat → V) (h : AHeap), Inv4 n4 [(e4 7), (e4 8), (e4 9)] h →
kv (lenD .slice a0 h) fun v24_5 =>
kv (binD .bad .lss false (e4 9) v24_5 h) fun v25_6 =>
kv (gdV v25_6 true (some (e4 9))) fun v27_7 =>
kv (gdV v25_6 true (binD .bad .lss true v27_7 (.int .i64 20) h)) fun v28_8 =>
kv (pickV v25_6 v28_8 (.bool false)) fun v29_9 =>
ifV v29_9 (
kv (indexAddrD (.slice 1) a0 (e4 9)) fun v34_10 =>
kv (ldD .one v34_10 h) fun v35_11 =>
kv (indexAddrD (.slice 1) a0 (e4 9)) fun v38_12 =>
kv (ldD .one v38_12 h) fun v39_13 =>
kv (lenD .str v39_13 h) fun v40_14 =>
kv (aMinMax false [v40_14, (.int .i64 100)]) fun v41_15 =>
kv (sliceD .str v35_11 none (some v41_15) none h) fun v42_16 =>
kv (buildD (.struct [(.int .i64 0), (.string ⟨#[]⟩), (.string ⟨#[]⟩), (.string ⟨#[]⟩), (.int .i64 0)] [(0, 1), (1, 1), (2, 1), (3, 1), (4, 1)]) [(0, (.int .i64 10)), (3, v42_16)]) fun v46_17 =>
cl (F.space_Space_Do E) [v19_2, v46_17, (.int .i64 0)] h fun v47_18 h =>
kv (aExtract v47_18 0) fun v48_19 =>
kv (aExtract v47_18 1) fun v49_20 =>
kv (binD .bad .neq true v49_20 (.int .i64 0) h) fun v51_21 =>
ifV v51_21 (
K (.bool false) h) (
kv (lenD .str v42_16 h) fun v53_22 =>
cl (F.estafetteref8_Dec E) [v53_22] h fun v54_23 h =>
kv (binD .bad .add true v54_23 (.string ⟨#[58]⟩) h) fun v55_24 =>
kv (binD .bad .add false v55_24 v42_16 h) fun v57_25 =>
kv (binD .bad .lss false (e4 9) v21_3 h) fun v60_26 =>
kv (gdV v60_26 true (some (e4 8))) fun v62_27 =>
kv (gdV v60_26 true (aUn .not v62_27)) fun v63_28 =>
kv (pickV v60_26 v63_28 (.bool false)) fun v64_29 =>
ifV v64_29 (
kv (lenD .str (e4 7) h) fun v66_30 =>
kv (lenD .str v57_25 h) fun v68_31 =>
kv (binD .bad .add false v66_30 v68_31 h) fun v69_32 =>
kv (binD .bad .gtr true v69_32 (.int .i64 200) h) fun v70_33 =>
kv (aUn .not v70_33) fun v72_34 =>
ifV v72_34 (
kv (binD .bad .add false (e4 7) v57_25 h) fun v75_35 =>
kv (binD .bad .add true (e4 9) (.int .i64 1) h) fun v31_36 =>
∃ m, m < n4 ∧ Inv4 m [v75_35, v70_33, v31_36] h) (
kv (binD .bad .add true (e4 9) (.int .i64 1) h) fun v31_37 =>
∃ m, m < n4 ∧ Inv4 m [(e4 7), v70_33, v31_37] h)) (
kv (binD .bad .add true (e4 9) (.int .i64 1) h) fun v31_38 =>
∃ m, m < n4 ∧ Inv4 m [(e4 7), (e4 8), v31_38] h))) (
kv (buildD (.struct [(.int .i64 0), (.string ⟨#[]⟩), (.string ⟨#[]⟩), (.string ⟨#[]⟩), (.int .i64 0)] [(0, 1), (1, 1), (2, 1), (3, 1), (4, 1)]) [(0, (.int .i64 11)), (2, (.string ⟨#[103]⟩)), (4, v21_3)]) fun v79_39 =>
cl (F.space_Space_Do E) [v19_2, v79_39, (.int .i64 0)] h fun v80_40 h =>
kv (aExtract v80_40 0) fun v81_41 =>
kv (aExtract v80_40 1) fun v82_42 =>
kv (binD .bad .eql false v81_41 (e4 7) h) fun v85_43 =>
kv (gdV v85_43 true (some v82_42)) fun v87_44 =>
kv (gdV v85_43 true (binD .bad .eql true v87_44 (.int .i64 0) h)) fun v88_45 =>
kv (pickV v85_43 v88_45 (.bool false)) fun v89_46 =>
K v89_46 h))
| _ => False

end Go.Abs

/- Shallow forms of functions, printed by tools/gen.lean. -/
import Derived.Test.YthhegdifbnghpaaGreatDoorQap
import Derived.Test.YthhegdifbnghpaaGreatDoorQao
set_option maxRecDepth 20000
set_option linter.unusedVariables false
set_option linter.unusedSimpArgs false
namespace Go.Abs
open Go
def F.desk_New (E : FE) : Spec := fun args h K => match args with
| [a0] =>
kv (binD .bad .lss true a0 (.int .i64 1) h) fun v0 =>
kv (gdV v0 false (some a0)) fun v1 =>
kv (gdV v0 false (binD .bad .gtr true v1 (.int .i64 3) h)) fun v2 =>
kv (pickV v0 (.bool true) v2) fun v3 =>
ifV v3 (
K (.pointer none) h) (
kP (makeMapD true none h) fun v4 h =>
kP (makeMapD true none h) fun v5 h =>
kP (makeMapD true none h) fun v6 h =>
kv (buildD (.struct [(.int .i64 0), (.map none), (.map none), (.map none)] [(0, 1), (1, 1), (2, 1), (3, 1)]) [(0, a0), (1, v4), (2, v5), (3, v6)]) fun v7 =>
kP (newD none v7 h) fun v8 h =>
K v8 h)
| _ => False
def F.op_Client (E : FE) : Spec := fun args h K => match args with
| [a0] =>
kP (newD none a0 h) fun v0 h =>
kv (fieldAddrD (some 0) v0) fun v1 =>
kv (ldD .one v1 h) fun v2 =>
kv (binD .bad .geq true v2 (.int .i64 0) h) fun v3 =>
kv (gdV v3 true (fieldAddrD (some 0) v0)) fun v4 =>
kv (gdV v3 true (ldD .one v4 h)) fun v5 =>
kv (gdV v3 true (binD .bad .leq true v5 (.int .i64 8) h)) fun v6 =>
kv (pickV v3 v6 (.bool false)) fun v7 =>
kv (gdV v7 true (fieldAddrD (some 1) v0)) fun v8 =>
kv (gdV v7 true (ldD .one v8 h)) fun v9 =>
kv (gdV v7 true (binD .bad .geq true v9 (.int .i64 1) h)) fun v10 =>
kv (pickV v7 v10 (.bool false)) fun v11 =>
kv (gdV v11 true (fieldAddrD (some 1) v0)) fun v12 =>
kv (gdV v11 true (ldD .one v12 h)) fun v13 =>
kv (gdV v11 true (binD .bad .leq true v13 (.int .i64 1099511627776) h)) fun v14 =>
kv (pickV v11 v14 (.bool false)) fun v15 =>
K v15 h
| _ => False
def F.slices_IndexFunc_Sapi_Op_api_Op (E : FE) : Spec := fun args h K => match args with
| [a0, a1] =>
kv (lenD .slice a0 h) fun v0 =>
∃ (Inv1 : Nat → List V → AHeap → Prop) (n1 : Nat), Inv1 n1 [(.int .i64 0)] h ∧ ∀ (n1 : Nat) (e1 : Nat → V) (h : AHeap), Inv1 n1 [(e1 8)] h →
kv (binD .bad .lss false (e1 8) v0 h) fun v2 =>
ifV v2 (
kv (indexAddrD (.slice 5) a0 (e1 8)) fun v3 =>
kv (ldD (.agg 5) v3 h) fun v4 =>
aCall E.I a1 [v4] h fun v5 h =>
ifV v5 (
K (e1 8) h) (
kv (binD .bad .add true (e1 8) (.int .i64 1) h) fun v6 =>
∃ m, m < n1 ∧ Inv1 m [v6] h)) (
K (.int .i64 (-1)) h)
| _ => False
def F.slices_ContainsFunc_Sapi_Op_api_Op (E : FE) : Spec := fun args h K => match args with
| [a0, a1] =>
cl (F.slices_IndexFunc_Sapi_Op_api_Op E) [a0, a1] h fun v0 h =>
kv (binD .bad .geq true v0 (.int .i64 0) h) fun v1 =>
K v1 h
| _ => False
def F.op_names (E : FE) : Spec := fun args h K => match args with
| [a0] =>
kv (binD .bad .eql true a0 (.int .i64 1) h) fun v0 =>
∃ K1 : List V → AHeap → Prop, (
ifV v0 (
K1 [v0] h) (
kv (binD .bad .eql true a0 (.int .i64 8) h) fun v2 =>
ifV v2 (
K1 [v2] h) (
kv (binD .bad .eql true a0 (.int .i64 11) h) fun v3 =>
K1 [v3] h))) ∧ ∀ (e1 : Nat → V) (h : AHeap), K1 [(e1 6)] h →
ifV (e1 6) (
K (.tuple #[(.bool true), (.bool false), (.bool true)]) h) (
kv (binD .bad .eql true a0 (.int .i64 3) h) fun v4 =>
∃ K5 : List V → AHeap → Prop, (
ifV v4 (
K5 [v4] h) (
kv (binD .bad .eql true a0 (.int .i64 5) h) fun v6 =>
K5 [v6] h)) ∧ ∀ (e5 : Nat → V) (h : AHeap), K5 [(e5 10)] h →
ifV (e5 10) (
K (.tuple #[(.bool true), (.bool false), (.bool false)]) h) (
kv (binD .bad .eql true a0 (.int .i64 4) h) fun v7 =>
ifV v7 (
K (.tuple #[(.bool true), (.bool true), (.bool false)]) h) (
kv (binD .bad .eql true a0 (.int .i64 6) h) fun v8 =>
∃ K9 : List V → AHeap → Prop, (
ifV v8 (
K9 [v8] h) (
kv (binD .bad .eql true a0 (.int .i64 10) h) fun v10 =>
K9 [v10] h)) ∧ ∀ (e9 : Nat → V) (h : AHeap), K9 [(e9 15)] h →
ifV (e9 15) (
K (.tuple #[(.bool false), (.bool true), (.bool false)]) h) (
kv (binD .bad .eql true a0 (.int .i64 7) h) fun v11 =>
ifV v11 (
K (.tuple #[(.bool false), (.bool false), (.bool true)]) h) (
kv (binD .bad .eql true a0 (.int .i64 12) h) fun v12 =>
ifV v12 (
K (.tuple #[(.bool true), (.bool true), (.bool true)]) h) (
K (.tuple #[(.bool false), (.bool false), (.bool false)]) h))))))
| _ => False
def F.strings_indexFunc (E : FE) : Spec := fun args h K => match args with
| [a0, a1, a2] =>
kP (rangeD .str a0 h) fun v0 h =>
∃ (Inv1 : Nat → List V → AHeap → Prop) (n1 : Nat), Inv1 n1 [] h ∧ ∀ (n1 : Nat) (e1 : Nat → V) (h : AHeap), Inv1 n1 [] h →
aNext v0 true h fun v2 h =>
kv (aExtract v2 0) fun v3 =>
ifV v3 (
kv (aExtract v2 1) fun v4 =>
kv (aExtract v2 2) fun v5 =>
aCall E.I a1 [v5] h fun v6 h =>
kv (binD .bool .eql false v6 a2 h) fun v7 =>
ifV v7 (
K v4 h) (
∃ m, m < n1 ∧ Inv1 m [] h)) (
K (.int .i64 (-1)) h)
| _ => False
def F.strings_IndexFunc (E : FE) : Spec := fun args h K => match args with
| [a0, a1] =>
cl (F.strings_indexFunc E) [a0, a1, (.bool true)] h fun v0 h =>
K v0 h
| _ => False
def F.strings_ContainsFunc (E : FE) : Spec := fun args h K => match args with
| [a0, a1] =>
cl (F.strings_IndexFunc E) [a0, a1] h fun v0 h =>
kv (binD .bad .geq true v0 (.int .i64 0) h) fun v1 =>
K v1 h
| _ => False
def F.op_makes (E : FE) : Spec := fun args h K => match args with
| [a0] =>
kP (newD none a0 h) fun v0 h =>
kv (fieldAddrD (some 4) v0) fun v1 =>
kv (ldD .one v1 h) fun v2 =>
kv (binD .bad .lss true v2 (.int .i64 1) h) fun v3 =>
kv (gdV v3 false (fieldAddrD (some 4) v0)) fun v4 =>
kv (gdV v3 false (ldD .one v4 h)) fun v5 =>
kv (gdV v3 false (binD .bad .gtr true v5 (.int .i64 3) h)) fun v6 =>
kv (pickV v3 (.bool true) v6) fun v7 =>
ifV v7 (
K (.bool false) h) (
kv (fieldAddrD (some 2) v0) fun v8 =>
kv (ldD .one v8 h) fun v9 =>
kv (lenD .str v9 h) fun v10 =>
kv (binD .bad .eql true v10 (.int .i64 1) h) fun v11 =>
kv (gdV v11 true (fieldAddrD (some 2) v0)) fun v12 =>
kv (gdV v11 true (ldD .one v12 h)) fun v13 =>
kv (gdV v11 true (indexD .str v13 (.int .i64 0))) fun v14 =>
kv (gdV v11 true (binD .bad .geq true v14 (.int .u8 49) h)) fun v15 =>
kv (pickV v11 v15 (.bool false)) fun v16 =>
kv (gdV v16 true (fieldAddrD (some 2) v0)) fun v17 =>
kv (gdV v16 true (ldD .one v17 h)) fun v18 =>
kv (gdV v16 true (indexD .str v18 (.int .i64 0))) fun v19 =>
kv (gdV v16 true (binD .bad .leq true v19 (.int .u8 57) h)) fun v20 =>
kv (pickV v16 v20 (.bool false)) fun v21 =>
kv (gdV v21 false (fieldAddrD (some 2) v0)) fun v22 =>
kv (gdV v21 false (ldD .one v22 h)) fun v23 =>
kv (gdV v21 false (binD .bad .eql true v23 (.string ⟨#[]⟩) h)) fun v24 =>
kv (gdV v21 false (some v24)) fun v25 =>
kv (gdV v25 true (fieldAddrD (some 4) v0)) fun v26 =>
kv (gdV v25 true (ldD .one v26 h)) fun v27 =>
kv (gdV v25 true (binD .bad .neq true v27 (.int .i64 2) h)) fun v28 =>
kv (gdV v21 false (pickV v25 v28 (.bool false))) fun v29 =>
kv (pickV v21 (.bool true) v29) fun v30 =>
K v30 h)
| _ => False
def F.op_May_1 (E : FE) : Spec := fun args h K => match args with
| [a0] =>
kv (binD .bad .lss true a0 (.int .i32 97) h) fun v0 =>
kv (gdV v0 false (some a0)) fun v1 =>
kv (gdV v0 false (binD .bad .gtr true v1 (.int .i32 122) h)) fun v2 =>
kv (pickV v0 (.bool true) v2) fun v3 =>
K v3 h
| _ => False
def F.op_May (E : FE) : Spec := fun args h K => match args with
| [a0] =>
kP (newD none a0 h) fun v0 h =>
kv (fieldAddrD (some 0) v0) fun v1 =>
kv (ldD .one v1 h) fun v2 =>
cl (F.op_names E) [v2] h fun v3 h =>
kv (aExtract v3 0) fun v4 =>
kv (aExtract v3 1) fun v5 =>
kv (aExtract v3 2) fun v6 =>
kv (fieldAddrD (some 0) v0) fun v7 =>
kv (ldD .one v7 h) fun v8 =>
kv (binD .bad .lss true v8 (.int .i64 1) h) fun v9 =>
kv (gdV v9 false (fieldAddrD (some 0) v0)) fun v10 =>
kv (gdV v9 false (ldD .one v10 h)) fun v11 =>
kv (gdV v9 false (binD .bad .gtr true v11 (.int .i64 12) h)) fun v12 =>
kv (pickV v9 (.bool true) v12) fun v13 =>
∃ K14 : List V → AHeap → Prop, (
ifV v13 (
K14 [v13] h) (
kv (fieldAddrD (some 1) v0) fun v15 =>
kv (ldD .one v15 h) fun v16 =>
kv (binD .bad .eql true v16 (.string ⟨#[]⟩) h) fun v17 =>
kv (gdV v17 false (fieldAddrD (some 1) v0)) fun v18 =>
kv (gdV v17 false (ldD .one v18 h)) fun v19 =>
kv (gdV v17 false (lenD .str v19 h)) fun v20 =>
kv (gdV v17 false (binD .bad .gtr true v20 (.int .i64 20) h)) fun v21 =>
kv (pickV v17 (.bool true) v21) fun v22 =>
kv (gdV v22 false (fieldAddrD (some 1) v0)) fun v23 =>
kv (gdV v22 false (ldD .one v23 h)) fun v24 =>
kv (gdV v22 false (some (.func (.func (E.k 7)) #[] #[]))) fun v25 =>
gdC v22 false h (fun K26 => cl (F.strings_ContainsFunc E) [v24, v25] h fun v h => K26 v h) fun v27 h =>
kv (pickV v22 (.bool true) v27) fun v28 =>
K14 [v28] h)) ∧ ∀ (e14 : Nat → V) (h : AHeap), K14 [(e14 14)] h →
ifV (e14 14) (
K (.bool false) h) (
kv (fieldAddrD (some 2) v0) fun v29 =>
kv (ldD .one v29 h) fun v30 =>
kv (lenD .str v30 h) fun v31 =>
kv (binD .bad .gtr true v31 (.int .i64 20) h) fun v32 =>
kv (gdV v32 false (fieldAddrD (some 3) v0)) fun v33 =>
kv (gdV v32 false (ldD .one v33 h)) fun v34 =>
kv (gdV v32 false (lenD .str v34 h)) fun v35 =>
kv (gdV v32 false (binD .bad .gtr true v35 (.int .i64 100) h)) fun v36 =>
kv (pickV v32 (.bool true) v36) fun v37 =>
kv (gdV v37 false (fieldAddrD (some 4) v0)) fun v38 =>
kv (gdV v37 false (ldD .one v38 h)) fun v39 =>
kv (gdV v37 false (binD .bad .lss true v39 (.int .i64 0) h)) fun v40 =>
kv (pickV v37 (.bool true) v40) fun v41 =>
kv (gdV v41 false (fieldAddrD (some 4) v0)) fun v42 =>
kv (gdV v41 false (ldD .one v42 h)) fun v43 =>
kv (gdV v41 false (binD .bad .gtr true v43 (.int .i64 1099511627776) h)) fun v44 =>
kv (pickV v41 (.bool true) v44) fun v45 =>
∃ K46 : List V → AHeap → Prop, (
ifV v45 (
K46 [v45] h) (
kv (aUn .not v4) fun v47 =>
kv (gdV v47 true (fieldAddrD (some 2) v0)) fun v48 =>
kv (gdV v47 true (ldD .one v48 h)) fun v49 =>
kv (gdV v47 true (binD .bad .neq true v49 (.string ⟨#[]⟩) h)) fun v50 =>
kv (pickV v47 v50 (.bool false)) fun v51 =>
ifV v51 (
K46 [v51] h) (
kv (aUn .not v5) fun v52 =>
kv (gdV v52 true (fieldAddrD (some 3) v0)) fun v53 =>
kv (gdV v52 true (ldD .one v53 h)) fun v54 =>
kv (gdV v52 true (binD .bad .neq true v54 (.string ⟨#[]⟩) h)) fun v55 =>
kv (pickV v52 v55 (.bool false)) fun v56 =>
ifV v56 (
K46 [v56] h) (
kv (aUn .not v6) fun v57 =>
kv (gdV v57 true (fieldAddrD (some 4) v0)) fun v58 =>
kv (gdV v57 true (ldD .one v58 h)) fun v59 =>
kv (gdV v57 true (binD .bad .neq true v59 (.int .i64 0) h)) fun v60 =>
kv (pickV v57 v60 (.bool false)) fun v61 =>
K46 [v61] h)))) ∧ ∀ (e46 : Nat → V) (h : AHeap), K46 [(e46 38)] h →
ifV (e46 38) (
K (.bool false) h) (
kv (fieldAddrD (some 0) v0) fun v62 =>
kv (ldD .one v62 h) fun v63 =>
kv (binD .bad .neq true v63 (.int .i64 1) h) fun v64 =>
kv (gdV v64 false (ldD (.agg 5) v0 h)) fun v65 =>
gdC v64 false h (fun K66 => cl (F.op_makes E) [v65] h fun v h => K66 v h) fun v67 h =>
kv (pickV v64 (.bool true) v67) fun v68 =>
K v68 h))
| _ => False
def F.op_All_1 (E : FE) : Spec := fun args h K => match args with
| [a0] =>
kP (newD none a0 h) fun v0 h =>
kv (ldD (.agg 5) v0 h) fun v1 =>
cl (F.op_May E) [v1] h fun v2 h =>
kv (aUn .not v2) fun v3 =>
K v3 h
| _ => False
def F.op_All (E : FE) : Spec := fun args h K => match args with
| [a0] =>
kv (lenD .slice a0 h) fun v0 =>
kv (binD .bad .geq true v0 (.int .i64 1) h) fun v1 =>
kv (gdV v1 true (some a0)) fun v2 =>
kv (gdV v1 true (lenD .slice v2 h)) fun v3 =>
kv (gdV v1 true (binD .bad .leq true v3 (.int .i64 8) h)) fun v4 =>
kv (pickV v1 v4 (.bool false)) fun v5 =>
kv (gdV v5 true (some a0)) fun v6 =>
gdC v5 true h (fun K7 => cl (F.slices_ContainsFunc_Sapi_Op_api_Op E) [v6, (.func (.func (E.k 6)) #[] #[])] h fun v h => K7 v h) fun v8 h =>
kv (gdV v5 true (aUn .not v8)) fun v9 =>
kv (pickV v5 v9 (.bool false)) fun v10 =>
K v10 h
| _ => False
def F.slices_Clone_Sapi_Op_api_Op (E : FE) : Spec := fun args h K => match args with
| [a0] =>
kv (binD .slice .eql true a0 (.slice none 0 0) h) fun v0 =>
ifV v0 (
K (.slice none 0 0) h) (
kP (buildSliceD (some (5, [(.int .i64 0), (.string ⟨#[]⟩), (.string ⟨#[]⟩), (.string ⟨#[]⟩), (.int .i64 0)])) 0 [] h) fun v1 h =>
kP (appendD (some (5, 64, [(.int .i64 0), (.string ⟨#[]⟩), (.string ⟨#[]⟩), (.string ⟨#[]⟩), (.int .i64 0)])) v1 a0 h) fun v2 h =>
K v2 h)
| _ => False
def F.mark_Add (E : FE) : Spec := fun args h K => match args with
| [a0, a1] =>
kv (binD .bad .rem true a0 (.int .u32 65536) h) fun v0 =>
kv (binD .bad .rem true v0 (.int .u32 65521) h) fun v1 =>
kv (binD .bad .quo true a0 (.int .u32 65536) h) fun v2 =>
kv (binD .bad .rem true v2 (.int .u32 65521) h) fun v3 =>
kv (lenD .slice a1 h) fun v4 =>
∃ (Inv5 : Nat → List V → AHeap → Prop) (n5 : Nat), Inv5 n5 [v1, v3, (.int .i64 0)] h ∧ ∀ (n5 : Nat) (e5 : Nat → V) (h : AHeap), Inv5 n5 [(e5 5), (e5 6), (e5 17)] h →
kv (binD .bad .lss false (e5 17) v4 h) fun v6 =>
ifV v6 (
kv (indexAddrD (.slice 1) a1 (e5 17)) fun v7 =>
kv (ldD .one v7 h) fun v8 =>
kv ((convD (.int .u32) v8 h).map (·.1)) fun v9 =>
kv (binD .bad .add false (e5 5) v9 h) fun v10 =>
kv (binD .bad .rem true v10 (.int .u32 65521) h) fun v11 =>
kv (binD .bad .add false (e5 6) v11 h) fun v12 =>
kv (binD .bad .rem true v12 (.int .u32 65521) h) fun v13 =>
kv (binD .bad .add true (e5 17) (.int .i64 1) h) fun v14 =>
∃ m, m < n5 ∧ Inv5 m [v11, v13, v14] h) (
kv (binD .bad .mul true (e5 6) (.int .u32 65536) h) fun v15 =>
kv (binD .bad .add false v15 (e5 5) h) fun v16 =>
K v16 h)
| _ => False
def F.mark_Of (E : FE) : Spec := fun args h K => match args with
| [a0] =>
cl (F.mark_Add E) [(.int .u32 1), a0] h fun v0 h =>
K v0 h
| _ => False
def F.mark_Shards (E : FE) : Spec := fun args h K => match args with
| [a0, a1] =>
kv (binD .bad .lss true a1 (.int .i64 1) h) fun v0 =>
ifV v0 (
K (.int .i64 0) h) (
kP (convD .toBytes a0 h) fun v1 h =>
cl (F.mark_Of E) [v1] h fun v2 h =>
kv ((convD (.int .u64) v2 h).map (·.1)) fun v3 =>
kv ((convD (.int .u64) a1 h).map (·.1)) fun v4 =>
kv (binD .bad .rem false v3 v4 h) fun v5 =>
kv ((convD (.int .i64) v5 h).map (·.1)) fun v6 =>
K v6 h)
| _ => False
def F.name_Shard (E : FE) : Spec := fun args h K => match args with
| [a0, a1] =>
cl (F.mark_Shards E) [a0, a1] h fun v0 h =>
K v0 h
| _ => False
def F.op_Parts (E : FE) : Spec := fun args h K => match args with
| [a0, a1] =>
kv (binD .bad .lss true a1 (.int .i64 1) h) fun v0 =>
kv (gdV v0 false (some a1)) fun v1 =>
kv (gdV v0 false (binD .bad .gtr true v1 (.int .i64 3) h)) fun v2 =>
kv (pickV v0 (.bool true) v2) fun v3 =>
ifV v3 (
K (.slice none 0 0) h) (
kP (makeSliceD (some (1, 24, [(.slice none 0 0)])) a1 a1 h) fun v4 h =>
kv (lenD .slice a0 h) fun v5 =>
∃ (Inv6 : Nat → List V → AHeap → Prop) (n6 : Nat), Inv6 n6 [(.int .i64 0)] h ∧ ∀ (n6 : Nat) (e6 : Nat → V) (h : AHeap), Inv6 n6 [(e6 19)] h →
kv (binD .bad .lss false (e6 19) v5 h) fun v7 =>
ifV v7 (
kv (indexAddrD (.slice 5) a0 (e6 19)) fun v8 =>
kv (ldD (.agg 5) v8 h) fun v9 =>
kP (newD none (.agg #[(.int .i64 0), (.string ⟨#[]⟩), (.string ⟨#[]⟩), (.string ⟨#[]⟩), (.int .i64 0)]) h) fun v10 h =>
kH (stD (some 5) v10 v9 h) fun _ h =>
kv (fieldAddrD (some 1) v10) fun v11 =>
kv (ldD .one v11 h) fun v12 =>
cl (F.name_Shard E) [v12, a1] h fun v13 h =>
kv (indexAddrD (.slice 1) v4 v13) fun v14 =>
kv (ldD .one v14 h) fun v15 =>
kP (buildSliceD (some (1, [(.int .i64 0)])) 1 [(0, (e6 19))] h) fun v16 h =>
kP (appendD (some (1, 8, [(.int .i64 0)])) v15 v16 h) fun v17 h =>
kv (indexAddrD (.slice 1) v4 v13) fun v18 =>
kH (stD (some 1) v18 v17 h) fun _ h =>
kv (binD .bad .add true (e6 19) (.int .i64 1) h) fun v19 =>
∃ m, m < n6 ∧ Inv6 m [v19] h) (
K v4 h))
| _ => False
def F.desk_Desk_Begin (E : FE) : Spec := fun args h K => match args with
| [a0, a1, a2] =>
kP (newD none a1 h) fun v0 h =>
kv (binD (.ptr true) .eql true a0 (.pointer none) h) fun v1 =>
kv (gdV v1 false (ldD (.agg 2) v0 h)) fun v2 =>
gdC v1 false h (fun K3 => cl (F.op_Client E) [v2] h fun v h => K3 v h) fun v4 h =>
kv (gdV v1 false (aUn .not v4)) fun v5 =>
kv (pickV v1 (.bool true) v5) fun v6 =>
kv (gdV v6 false (some a2)) fun v7 =>
gdC v6 false h (fun K8 => cl (F.op_All E) [v7] h fun v h => K8 v h) fun v9 h =>
kv (gdV v6 false (aUn .not v9)) fun v10 =>
kv (pickV v6 (.bool true) v10) fun v11 =>
kv (gdV v11 false (fieldAddrD (some 1) v0)) fun v12 =>
kv (gdV v11 false (ldD .one v12 h)) fun v13 =>
kv (gdV v11 false (some a0)) fun v14 =>
kv (gdV v11 false (aNil v14)) fun v15 =>
kv (gdV v11 false (fieldAddrD (some 1) v15)) fun v16 =>
kv (gdV v11 false (ldD .one v16 h)) fun v17 =>
kv (gdV v11 false (fieldAddrD (some 0) v0)) fun v18 =>
kv (gdV v11 false (ldD .one v18 h)) fun v19 =>
kv (gdV v11 false (lookupD (some (.int, (some (.int .i64 0)))) v17 v19 false h)) fun v20 =>
kv (gdV v11 false (binD .bad .leq false v13 v20 h)) fun v21 =>
kv (pickV v11 (.bool true) v21) fun v22 =>
ifV v22 (
K (.bool false) h) (
kv (aNil a0) fun v23 =>
kv (fieldAddrD (some 1) v23) fun v24 =>
kv (ldD .one v24 h) fun v25 =>
kv (fieldAddrD (some 0) v0) fun v26 =>
kv (ldD .one v26 h) fun v27 =>
kv (fieldAddrD (some 1) v0) fun v28 =>
kv (ldD .one v28 h) fun v29 =>
kH (mapUpdateD (some (.int, (some (.int .i64 0)))) v25 v27 v29 h) fun _ h =>
kv (aNil a0) fun v30 =>
kv (fieldAddrD (some 2) v30) fun v31 =>
kv (ldD .one v31 h) fun v32 =>
kv (ldD (.agg 2) v0 h) fun v33 =>
kv (aNil a0) fun v34 =>
kv (fieldAddrD (some 0) v34) fun v35 =>
kv (ldD .one v35 h) fun v36 =>
((cl (F.slices_Clone_Sapi_Op_api_Op E) [a2] h fun v37 h =>
ldD .one v31 h = some v32 ∧
ldD (.agg 2) v0 h = some v33 ∧
ldD .one v35 h = some v36 ∧
((cl (F.op_Parts E) [a2, v36] h fun v38 h =>
ldD .one v31 h = some v32 ∧
ldD (.agg 2) v0 h = some v33 ∧
(kP (makeMapD true none h) fun v39 h =>
ldD .one v31 h = some v32 ∧
ldD (.agg 2) v0 h = some v33 ∧
ldD .one v35 h = some v36 ∧
kP (makeMapD true none h) fun v40 h =>
ldD .one v31 h = some v32 ∧
ldD (.agg 2) v0 h = some v33 ∧
ldD .one v35 h = some v36 ∧
kv (buildD (.struct [(.slice none 0 0), (.slice none 0 0), (.map none), (.bool false), (.bool false), (.map none), (.slice none 0 0)] [(0, 1), (1, 1), (2, 1), (3, 1), (4, 1), (5, 1), (6, 1)]) [(0, v37), (1, v38), (2, v39), (5, v40)]) fun v41 =>
kP (newD none v41 h) fun v42 h =>
ldD .one v31 h = some v32 ∧
ldD (.agg 2) v0 h = some v33 ∧
kH (mapUpdateD (some ((.struct false [(0, .int), (1, .int)]), (some (.pointer none)))) v32 v33 v42 h) fun _ h =>
K (.bool true) h) ∧
(kP (makeMapD true none h) fun v43 h =>
ldD .one v31 h = some v32 ∧
ldD (.agg 2) v0 h = some v33 ∧
ldD .one v35 h = some v36 ∧
kP (makeMapD true none h) fun v44 h =>
ldD .one v31 h = some v32 ∧
ldD (.agg 2) v0 h = some v33 ∧
ldD .one v35 h = some v36 ∧
kv (buildD (.struct [(.slice none 0 0), (.slice none 0 0), (.map none), (.bool false), (.bool false), (.map none), (.slice none 0 0)] [(0, 1), (1, 1), (2, 1), (3, 1), (4, 1), (5, 1), (6, 1)]) [(0, v37), (1, v38), (2, v44), (5, v43)]) fun v45 =>
kP (newD none v45 h) fun v46 h =>
ldD .one v31 h = some v32 ∧
ldD (.agg 2) v0 h = some v33 ∧
kH (mapUpdateD (some ((.struct false [(0, .int), (1, .int)]), (some (.pointer none)))) v32 v33 v46 h) fun _ h =>
K (.bool true) h)) ∧
(kP (makeMapD true none h) fun v47 h =>
ldD .one v31 h = some v32 ∧
ldD (.agg 2) v0 h = some v33 ∧
ldD .one v35 h = some v36 ∧
(cl (F.op_Parts E) [a2, v36] h fun v48 h =>
ldD .one v31 h = some v32 ∧
ldD (.agg 2) v0 h = some v33 ∧
kP (makeMapD true none h) fun v49 h =>
ldD .one v31 h = some v32 ∧
ldD (.agg 2) v0 h = some v33 ∧
ldD .one v35 h = some v36 ∧
kv (buildD (.struct [(.slice none 0 0), (.slice none 0 0), (.map none), (.bool false), (.bool false), (.map none), (.slice none 0 0)] [(0, 1), (1, 1), (2, 1), (3, 1), (4, 1), (5, 1), (6, 1)]) [(0, v37), (1, v48), (2, v47), (5, v49)]) fun v50 =>
kP (newD none v50 h) fun v51 h =>
ldD .one v31 h = some v32 ∧
ldD (.agg 2) v0 h = some v33 ∧
kH (mapUpdateD (some ((.struct false [(0, .int), (1, .int)]), (some (.pointer none)))) v32 v33 v51 h) fun _ h =>
K (.bool true) h) ∧
(kP (makeMapD true none h) fun v52 h =>
ldD .one v31 h = some v32 ∧
ldD (.agg 2) v0 h = some v33 ∧
ldD .one v35 h = some v36 ∧
cl (F.op_Parts E) [a2, v36] h fun v53 h =>
ldD .one v31 h = some v32 ∧
ldD (.agg 2) v0 h = some v33 ∧
kv (buildD (.struct [(.slice none 0 0), (.slice none 0 0), (.map none), (.bool false), (.bool false), (.map none), (.slice none 0 0)] [(0, 1), (1, 1), (2, 1), (3, 1), (4, 1), (5, 1), (6, 1)]) [(0, v37), (1, v53), (2, v47), (5, v52)]) fun v54 =>
kP (newD none v54 h) fun v55 h =>
ldD .one v31 h = some v32 ∧
ldD (.agg 2) v0 h = some v33 ∧
kH (mapUpdateD (some ((.struct false [(0, .int), (1, .int)]), (some (.pointer none)))) v32 v33 v55 h) fun _ h =>
K (.bool true) h))) ∧
(kP (makeMapD true none h) fun v56 h =>
ldD .one v31 h = some v32 ∧
ldD (.agg 2) v0 h = some v33 ∧
ldD .one v35 h = some v36 ∧
(cl (F.op_Parts E) [a2, v36] h fun v57 h =>
ldD .one v31 h = some v32 ∧
ldD (.agg 2) v0 h = some v33 ∧
kP (makeMapD true none h) fun v58 h =>
ldD .one v31 h = some v32 ∧
ldD (.agg 2) v0 h = some v33 ∧
ldD .one v35 h = some v36 ∧
kv (buildD (.struct [(.slice none 0 0), (.slice none 0 0), (.map none), (.bool false), (.bool false), (.map none), (.slice none 0 0)] [(0, 1), (1, 1), (2, 1), (3, 1), (4, 1), (5, 1), (6, 1)]) [(0, v37), (1, v57), (2, v58), (5, v56)]) fun v59 =>
kP (newD none v59 h) fun v60 h =>
ldD .one v31 h = some v32 ∧
ldD (.agg 2) v0 h = some v33 ∧
kH (mapUpdateD (some ((.struct false [(0, .int), (1, .int)]), (some (.pointer none)))) v32 v33 v60 h) fun _ h =>
K (.bool true) h) ∧
(kP (makeMapD true none h) fun v61 h =>
ldD .one v31 h = some v32 ∧
ldD (.agg 2) v0 h = some v33 ∧
ldD .one v35 h = some v36 ∧
cl (F.op_Parts E) [a2, v36] h fun v62 h =>
ldD .one v31 h = some v32 ∧
ldD (.agg 2) v0 h = some v33 ∧
kv (buildD (.struct [(.slice none 0 0), (.slice none 0 0), (.map none), (.bool false), (.bool false), (.map none), (.slice none 0 0)] [(0, 1), (1, 1), (2, 1), (3, 1), (4, 1), (5, 1), (6, 1)]) [(0, v37), (1, v62), (2, v61), (5, v56)]) fun v63 =>
kP (newD none v63 h) fun v64 h =>
ldD .one v31 h = some v32 ∧
ldD (.agg 2) v0 h = some v33 ∧
kH (mapUpdateD (some ((.struct false [(0, .int), (1, .int)]), (some (.pointer none)))) v32 v33 v64 h) fun _ h =>
K (.bool true) h))) ∧
(kP (makeMapD true none h) fun v65 h =>
ldD .one v31 h = some v32 ∧
ldD (.agg 2) v0 h = some v33 ∧
ldD .one v35 h = some v36 ∧
(cl (F.slices_Clone_Sapi_Op_api_Op E) [a2] h fun v66 h =>
ldD .one v31 h = some v32 ∧
ldD (.agg 2) v0 h = some v33 ∧
ldD .one v35 h = some v36 ∧
(cl (F.op_Parts E) [a2, v36] h fun v67 h =>
ldD .one v31 h = some v32 ∧
ldD (.agg 2) v0 h = some v33 ∧
kP (makeMapD true none h) fun v68 h =>
ldD .one v31 h = some v32 ∧
ldD (.agg 2) v0 h = some v33 ∧
ldD .one v35 h = some v36 ∧
kv (buildD (.struct [(.slice none 0 0), (.slice none 0 0), (.map none), (.bool false), (.bool false), (.map none), (.slice none 0 0)] [(0, 1), (1, 1), (2, 1), (3, 1), (4, 1), (5, 1), (6, 1)]) [(0, v66), (1, v67), (2, v65), (5, v68)]) fun v69 =>
kP (newD none v69 h) fun v70 h =>
ldD .one v31 h = some v32 ∧
ldD (.agg 2) v0 h = some v33 ∧
kH (mapUpdateD (some ((.struct false [(0, .int), (1, .int)]), (some (.pointer none)))) v32 v33 v70 h) fun _ h =>
K (.bool true) h) ∧
(kP (makeMapD true none h) fun v71 h =>
ldD .one v31 h = some v32 ∧
ldD (.agg 2) v0 h = some v33 ∧
ldD .one v35 h = some v36 ∧
cl (F.op_Parts E) [a2, v36] h fun v72 h =>
ldD .one v31 h = some v32 ∧
ldD (.agg 2) v0 h = some v33 ∧
kv (buildD (.struct [(.slice none 0 0), (.slice none 0 0), (.map none), (.bool false), (.bool false), (.map none), (.slice none 0 0)] [(0, 1), (1, 1), (2, 1), (3, 1), (4, 1), (5, 1), (6, 1)]) [(0, v66), (1, v72), (2, v65), (5, v71)]) fun v73 =>
kP (newD none v73 h) fun v74 h =>
ldD .one v31 h = some v32 ∧
ldD (.agg 2) v0 h = some v33 ∧
kH (mapUpdateD (some ((.struct false [(0, .int), (1, .int)]), (some (.pointer none)))) v32 v33 v74 h) fun _ h =>
K (.bool true) h)) ∧
(kP (makeMapD true none h) fun v75 h =>
ldD .one v31 h = some v32 ∧
ldD (.agg 2) v0 h = some v33 ∧
ldD .one v35 h = some v36 ∧
cl (F.slices_Clone_Sapi_Op_api_Op E) [a2] h fun v76 h =>
ldD .one v31 h = some v32 ∧
ldD (.agg 2) v0 h = some v33 ∧
ldD .one v35 h = some v36 ∧
cl (F.op_Parts E) [a2, v36] h fun v77 h =>
ldD .one v31 h = some v32 ∧
ldD (.agg 2) v0 h = some v33 ∧
kv (buildD (.struct [(.slice none 0 0), (.slice none 0 0), (.map none), (.bool false), (.bool false), (.map none), (.slice none 0 0)] [(0, 1), (1, 1), (2, 1), (3, 1), (4, 1), (5, 1), (6, 1)]) [(0, v76), (1, v77), (2, v65), (5, v75)]) fun v78 =>
kP (newD none v78 h) fun v79 h =>
ldD .one v31 h = some v32 ∧
ldD (.agg 2) v0 h = some v33 ∧
kH (mapUpdateD (some ((.struct false [(0, .int), (1, .int)]), (some (.pointer none)))) v32 v33 v79 h) fun _ h =>
K (.bool true) h))) ∧
(kP (makeMapD true none h) fun v80 h =>
ldD .one v31 h = some v32 ∧
ldD (.agg 2) v0 h = some v33 ∧
ldD .one v35 h = some v36 ∧
(cl (F.slices_Clone_Sapi_Op_api_Op E) [a2] h fun v81 h =>
ldD .one v31 h = some v32 ∧
ldD (.agg 2) v0 h = some v33 ∧
ldD .one v35 h = some v36 ∧
(cl (F.op_Parts E) [a2, v36] h fun v82 h =>
ldD .one v31 h = some v32 ∧
ldD (.agg 2) v0 h = some v33 ∧
kP (makeMapD true none h) fun v83 h =>
ldD .one v31 h = some v32 ∧
ldD (.agg 2) v0 h = some v33 ∧
ldD .one v35 h = some v36 ∧
kv (buildD (.struct [(.slice none 0 0), (.slice none 0 0), (.map none), (.bool false), (.bool false), (.map none), (.slice none 0 0)] [(0, 1), (1, 1), (2, 1), (3, 1), (4, 1), (5, 1), (6, 1)]) [(0, v81), (1, v82), (2, v83), (5, v80)]) fun v84 =>
kP (newD none v84 h) fun v85 h =>
ldD .one v31 h = some v32 ∧
ldD (.agg 2) v0 h = some v33 ∧
kH (mapUpdateD (some ((.struct false [(0, .int), (1, .int)]), (some (.pointer none)))) v32 v33 v85 h) fun _ h =>
K (.bool true) h) ∧
(kP (makeMapD true none h) fun v86 h =>
ldD .one v31 h = some v32 ∧
ldD (.agg 2) v0 h = some v33 ∧
ldD .one v35 h = some v36 ∧
cl (F.op_Parts E) [a2, v36] h fun v87 h =>
ldD .one v31 h = some v32 ∧
ldD (.agg 2) v0 h = some v33 ∧
kv (buildD (.struct [(.slice none 0 0), (.slice none 0 0), (.map none), (.bool false), (.bool false), (.map none), (.slice none 0 0)] [(0, 1), (1, 1), (2, 1), (3, 1), (4, 1), (5, 1), (6, 1)]) [(0, v81), (1, v87), (2, v86), (5, v80)]) fun v88 =>
kP (newD none v88 h) fun v89 h =>
ldD .one v31 h = some v32 ∧
ldD (.agg 2) v0 h = some v33 ∧
kH (mapUpdateD (some ((.struct false [(0, .int), (1, .int)]), (some (.pointer none)))) v32 v33 v89 h) fun _ h =>
K (.bool true) h)) ∧
(kP (makeMapD true none h) fun v90 h =>
ldD .one v31 h = some v32 ∧
ldD (.agg 2) v0 h = some v33 ∧
ldD .one v35 h = some v36 ∧
cl (F.slices_Clone_Sapi_Op_api_Op E) [a2] h fun v91 h =>
ldD .one v31 h = some v32 ∧
ldD (.agg 2) v0 h = some v33 ∧
ldD .one v35 h = some v36 ∧
cl (F.op_Parts E) [a2, v36] h fun v92 h =>
ldD .one v31 h = some v32 ∧
ldD (.agg 2) v0 h = some v33 ∧
kv (buildD (.struct [(.slice none 0 0), (.slice none 0 0), (.map none), (.bool false), (.bool false), (.map none), (.slice none 0 0)] [(0, 1), (1, 1), (2, 1), (3, 1), (4, 1), (5, 1), (6, 1)]) [(0, v91), (1, v92), (2, v90), (5, v80)]) fun v93 =>
kP (newD none v93 h) fun v94 h =>
ldD .one v31 h = some v32 ∧
ldD (.agg 2) v0 h = some v33 ∧
kH (mapUpdateD (some ((.struct false [(0, .int), (1, .int)]), (some (.pointer none)))) v32 v33 v94 h) fun _ h =>
K (.bool true) h)))
| _ => False
def F.maps_Keys_map_api_Id_desk_trans_api_Id_desk_trans (E : FE) : Spec := fun args h K => match args with
| [a0] =>
kP (newD none a0 h) fun v0 h =>
K (.func (.func (E.k 16)) #[] #[v0]) h
| _ => False
def F.name_New (E : FE) : Spec := fun args h K => match args with
| [a0] =>
kP (makeMapD true none h) fun v0 h =>
kv (buildD (.struct [(.map none)] [(0, 1)]) [(0, v0)]) fun v1 =>
kP (newD none v1 h) fun v2 h =>
kv (lenD .slice a0 h) fun v3 =>
∃ (Inv4 : Nat → List V → AHeap → Prop) (n4 : Nat), Inv4 n4 [(.int .i64 0)] h ∧ ∀ (n4 : Nat) (e4 : Nat → V) (h : AHeap), Inv4 n4 [(e4 11)] h →
kv (binD .bad .lss false (e4 11) v3 h) fun v5 =>
ifV v5 (
kv (indexAddrD (.slice 2) a0 (e4 11)) fun v6 =>
kv (ldD (.agg 2) v6 h) fun v7 =>
kP (newD none (.agg #[(.int .i64 0), (.int .i64 0)]) h) fun v8 h =>
kH (stD (some 2) v8 v7 h) fun _ h =>
kv (aNil v2) fun v9 =>
kv (fieldAddrD (some 0) v9) fun v10 =>
kv (ldD .one v10 h) fun v11 =>
kv (ldD (.agg 2) v8 h) fun v12 =>
kH (mapUpdateD (some ((.struct false [(0, .int), (1, .int)]), (some (.bool false)))) v11 v12 (.bool true) h) fun _ h =>
kv (binD .bad .add true (e4 11) (.int .i64 1) h) fun v13 =>
∃ m, m < n4 ∧ Inv4 m [v13] h) (
K v2 h)
| _ => False
def F.maps_Keys_map_api_Id_bool_api_Id_bool (E : FE) : Spec := fun args h K => match args with
| [a0] =>
kP (newD none a0 h) fun v0 h =>
K (.func (.func (E.k 13)) #[] #[v0]) h
| _ => False
def F.math_bits_Len32 (E : FE) : Spec := fun args h K => match args with
| [a0] =>
kv (binD .bad .geq true a0 (.int .u32 65536) h) fun v0 =>
∃ K1 : List V → AHeap → Prop, (
ifV v0 (
kv (binD .bad .shr true a0 (.int .u64 16) h) fun v2 =>
K1 [v2, (.int .i64 16)] h) (
K1 [a0, (.int .i64 0)] h)) ∧ ∀ (e1 : Nat → V) (h : AHeap), K1 [(e1 0), (e1 2)] h →
kv (binD .bad .geq true (e1 0) (.int .u32 256) h) fun v3 =>
∃ K4 : List V → AHeap → Prop, (
ifV v3 (
kv (binD .bad .shr true (e1 0) (.int .u64 8) h) fun v5 =>
kv (binD .bad .add true (e1 2) (.int .i64 8) h) fun v6 =>
K4 [v5, v6] h) (
K4 [(e1 0), (e1 2)] h)) ∧ ∀ (e4 : Nat → V) (h : AHeap), K4 [(e4 0), (e4 2)] h →
kv ((convD (.int .u8) (e4 0) h).map (·.1)) fun v7 =>
kv (indexD .str (.string ⟨#[0, 1, 2, 2, 3, 3, 3, 3, 4, 4, 4, 4, 4, 4, 4, 4, 5, 5, 5, 5, 5, 5, 5, 5, 5, 5, 5, 5, 5, 5, 5, 5, 6, 6, 6, 6, 6, 6, 6, 6, 6, 6, 6, 6, 6, 6, 6, 6, 6, 6, 6, 6, 6, 6, 6, 6, 6, 6, 6, 6, 6, 6, 6, 6, 7, 7, 7, 7, 7, 7, 7, 7, 7, 7, 7, 7, 7, 7, 7, 7, 7, 7, 7, 7, 7, 7, 7, 7, 7, 7, 7, 7, 7, 7, 7, 7, 7, 7, 7, 7, 7, 7, 7, 7, 7, 7, 7, 7, 7, 7, 7, 7, 7, 7, 7, 7, 7, 7, 7, 7, 7, 7, 7, 7, 7, 7, 7, 7, 8, 8, 8, 8, 8, 8, 8, 8, 8, 8, 8, 8, 8, 8, 8, 8, 8, 8, 8, 8, 8, 8, 8, 8, 8, 8, 8, 8, 8, 8, 8, 8, 8, 8, 8, 8, 8, 8, 8, 8, 8, 8, 8, 8, 8, 8, 8, 8, 8, 8, 8, 8, 8, 8, 8, 8, 8, 8, 8, 8, 8, 8, 8, 8, 8, 8, 8, 8, 8, 8, 8, 8, 8, 8, 8, 8, 8, 8, 8, 8, 8, 8, 8, 8, 8, 8, 8, 8, 8, 8, 8, 8, 8, 8, 8, 8, 8, 8, 8, 8, 8, 8, 8, 8, 8, 8, 8, 8, 8, 8, 8, 8, 8, 8, 8, 8, 8, 8, 8, 8, 8, 8, 8, 8, 8, 8, 8, 8]⟩) v7) fun v8 =>
kv ((convD (.int .i64) v8 h).map (·.1)) fun v9 =>
kv (binD .bad .add false (e4 2) v9 h) fun v10 =>
K v10 h
| _ => False
def F.math_bits_Len64 (E : FE) : Spec := fun args h K => match args with
| [a0] =>
kv (binD .bad .geq true a0 (.int .u64 4294967296) h) fun v0 =>
∃ K1 : List V → AHeap → Prop, (
ifV v0 (
kv (binD .bad .shr true a0 (.int .u64 32) h) fun v2 =>
K1 [v2, (.int .i64 32)] h) (
K1 [a0, (.int .i64 0)] h)) ∧ ∀ (e1 : Nat → V) (h : AHeap), K1 [(e1 0), (e1 2)] h →
kv (binD .bad .geq true (e1 0) (.int .u64 65536) h) fun v3 =>
∃ K4 : List V → AHeap → Prop, (
ifV v3 (
kv (binD .bad .shr true (e1 0) (.int .u64 16) h) fun v5 =>
kv (binD .bad .add true (e1 2) (.int .i64 16) h) fun v6 =>
K4 [v5, v6] h) (
K4 [(e1 0), (e1 2)] h)) ∧ ∀ (e4 : Nat → V) (h : AHeap), K4 [(e4 0), (e4 2)] h →
kv (binD .bad .geq true (e4 0) (.int .u64 256) h) fun v7 =>
∃ K8 : List V → AHeap → Prop, (
ifV v7 (
kv (binD .bad .shr true (e4 0) (.int .u64 8) h) fun v9 =>
kv (binD .bad .add true (e4 2) (.int .i64 8) h) fun v10 =>
K8 [v9, v10] h) (
K8 [(e4 0), (e4 2)] h)) ∧ ∀ (e8 : Nat → V) (h : AHeap), K8 [(e8 0), (e8 2)] h →
kv ((convD (.int .u8) (e8 0) h).map (·.1)) fun v11 =>
kv (indexD .str (.string ⟨#[0, 1, 2, 2, 3, 3, 3, 3, 4, 4, 4, 4, 4, 4, 4, 4, 5, 5, 5, 5, 5, 5, 5, 5, 5, 5, 5, 5, 5, 5, 5, 5, 6, 6, 6, 6, 6, 6, 6, 6, 6, 6, 6, 6, 6, 6, 6, 6, 6, 6, 6, 6, 6, 6, 6, 6, 6, 6, 6, 6, 6, 6, 6, 6, 7, 7, 7, 7, 7, 7, 7, 7, 7, 7, 7, 7, 7, 7, 7, 7, 7, 7, 7, 7, 7, 7, 7, 7, 7, 7, 7, 7, 7, 7, 7, 7, 7, 7, 7, 7, 7, 7, 7, 7, 7, 7, 7, 7, 7, 7, 7, 7, 7, 7, 7, 7, 7, 7, 7, 7, 7, 7, 7, 7, 7, 7, 7, 7, 8, 8, 8, 8, 8, 8, 8, 8, 8, 8, 8, 8, 8, 8, 8, 8, 8, 8, 8, 8, 8, 8, 8, 8, 8, 8, 8, 8, 8, 8, 8, 8, 8, 8, 8, 8, 8, 8, 8, 8, 8, 8, 8, 8, 8, 8, 8, 8, 8, 8, 8, 8, 8, 8, 8, 8, 8, 8, 8, 8, 8, 8, 8, 8, 8, 8, 8, 8, 8, 8, 8, 8, 8, 8, 8, 8, 8, 8, 8, 8, 8, 8, 8, 8, 8, 8, 8, 8, 8, 8, 8, 8, 8, 8, 8, 8, 8, 8, 8, 8, 8, 8, 8, 8, 8, 8, 8, 8, 8, 8, 8, 8, 8, 8, 8, 8, 8, 8, 8, 8, 8, 8, 8, 8, 8, 8, 8, 8]⟩) v11) fun v12 =>
kv ((convD (.int .i64) v12 h).map (·.1)) fun v13 =>
kv (binD .bad .add false (e8 2) v13 h) fun v14 =>
K v14 h
| _ => False
def F.math_bits_Len (E : FE) : Spec := fun args h K => match args with
| [a0] =>
ifV (.bool false) (
kv ((convD (.int .u32) a0 h).map (·.1)) fun v0 =>
cl (F.math_bits_Len32 E) [v0] h fun v1 h =>
K v1 h) (
cl (F.math_bits_Len64 E) [a0] h fun v2 h =>
K v2 h)
| _ => False
def F.slices_insertionSortCmpFunc_api_Id (E : FE) : Spec := fun args h K => match args with
| [a0, a1, a2, a3] =>
kv (binD .bad .add true a1 (.int .i64 1) h) fun v0 =>
∃ (Inv1 : Nat → List V → AHeap → Prop) (n1 : Nat), Inv1 n1 [v0] h ∧ ∀ (n1 : Nat) (e1 : Nat → V) (h : AHeap), Inv1 n1 [(e1 8)] h →
kv (binD .bad .lss false (e1 8) a2 h) fun v2 =>
ifV v2 (
∃ (Inv3 : Nat → List V → AHeap → Prop) (n3 : Nat), Inv3 n3 [(e1 8)] h ∧ ∀ (n3 : Nat) (e3 : Nat → V) (h : AHeap), Inv3 n3 [(e3 9)] h →
kv (binD .bad .gtr false (e3 9) a1 h) fun v4 =>
kv (gdV v4 true (some a3)) fun v5 =>
kv (gdV v4 true (some a0)) fun v6 =>
kv (gdV v4 true (some (e3 9))) fun v7 =>
kv (gdV v4 true (indexAddrD (.slice 2) v6 v7)) fun v8 =>
kv (gdV v4 true (ldD (.agg 2) v8 h)) fun v9 =>
kv (gdV v4 true (some a0)) fun v10 =>
kv (gdV v4 true (some (e3 9))) fun v11 =>
kv (gdV v4 true (binD .bad .sub true v11 (.int .i64 1) h)) fun v12 =>
kv (gdV v4 true (indexAddrD (.slice 2) v10 v12)) fun v13 =>
kv (gdV v4 true (ldD (.agg 2) v13 h)) fun v14 =>
gdC v4 true h (fun K15 => aCall E.I v5 [v9, v14] h fun v h => K15 v h) fun v16 h =>
kv (gdV v4 true (binD .bad .lss true v16 (.int .i64 0) h)) fun v17 =>
kv (pickV v4 v17 (.bool false)) fun v18 =>
ifV v18 (
kv (binD .bad .sub true (e3 9) (.int .i64 1) h) fun v19 =>
kv (binD .bad .sub true (e3 9) (.int .i64 1) h) fun v20 =>
kv (indexAddrD (.slice 2) a0 v20) fun v21 =>
kv (ldD (.agg 2) v21 h) fun v22 =>
kv (indexAddrD (.slice 2) a0 (e3 9)) fun v23 =>
kv (ldD (.agg 2) v23 h) fun v24 =>
kv (indexAddrD (.slice 2) a0 (e3 9)) fun v25 =>
kH (stD (some 2) v25 v22 h) fun _ h =>
kv (indexAddrD (.slice 2) a0 v19) fun v26 =>
kH (stD (some 2) v26 v24 h) fun _ h =>
kv (binD .bad .sub true (e3 9) (.int .i64 1) h) fun v27 =>
∃ m, m < n3 ∧ Inv3 m [v27] h) (
kv (binD .bad .add true (e1 8) (.int .i64 1) h) fun v28 =>
∃ m, m < n1 ∧ Inv1 m [v28] h)) (
K (.tuple #[]) h)
| _ => False
def Fr.slices_pdqsortCmpFunc_api_Id : Nat → FE → Spec
| 0, _ => fun _ _ _ => False
| fuel + 1, E => fun args h K => match args with
| [a0, a1, a2, a3, a4] =>
∃ (Inv0 : Nat → List V → AHeap → Prop) (n0 : Nat), Inv0 n0 [a1, a2, a3, (.bool true), (.bool true)] h ∧ ∀ (n0 : Nat) (e0 : Nat → V) (h : AHeap), Inv0 n0 [(e0 1), (e0 2), (e0 3), (e0 10), (e0 11)] h →
kv (binD .bad .sub false (e0 2) (e0 1) h) fun v1 =>
kv (binD .bad .leq true v1 (.int .i64 12) h) fun v2 =>
ifV v2 (
cl (F.slices_insertionSortCmpFunc_api_Id E) [a0, (e0 1), (e0 2), a4] h fun v3 h =>
K (.tuple #[]) h) (
kv (binD .bad .eql true (e0 3) (.int .i64 0) h) fun v4 =>
ifV v4 (
False) (
kv (aUn .not (e0 10)) fun v6 =>
∃ K7 : List V → AHeap → Prop, (
ifV v6 (
False) (
K7 [(e0 3)] h)) ∧ ∀ (e7 : Nat → V) (h : AHeap), K7 [(e7 3)] h →
False))
| _ => False
def F.slices_pdqsortCmpFunc_api_Id (E : FE) : Spec := fun args h K => ∃ n, Fr.slices_pdqsortCmpFunc_api_Id n E args h K
def F.slices_SortFunc_Sapi_Id_api_Id (E : FE) : Spec := fun args h K => match args with
| [a0, a1] =>
kv (lenD .slice a0 h) fun v0 =>
kv ((convD (.int .u64) v0 h).map (·.1)) fun v1 =>
cl (F.math_bits_Len E) [v1] h fun v2 h =>
cl (F.slices_pdqsortCmpFunc_api_Id E) [a0, (.int .i64 0), v0, v2, a1] h fun v3 h =>
K (.tuple #[]) h
| _ => False
def F.slices_SortedFunc_api_Id (E : FE) : Spec := fun args h K => match args with
| [a0, a1] =>
cl (F.slices_Collect_api_Id E) [a0] h fun v0 h =>
cl (F.slices_SortFunc_Sapi_Id_api_Id E) [v0, a1] h fun v1 h =>
K v0 h
| _ => False
def F.name_Ids_All (E : FE) : Spec := fun args h K => match args with
| [a0] =>
kv (binD (.ptr true) .eql true a0 (.pointer none) h) fun v0 =>
ifV v0 (
K (.slice none 0 0) h) (
kv (aNil a0) fun v1 =>
kv (fieldAddrD (some 0) v1) fun v2 =>
kv (ldD .one v2 h) fun v3 =>
cl (F.maps_Keys_map_api_Id_bool_api_Id_bool E) [v3] h fun v4 h =>
cl (F.slices_SortedFunc_api_Id E) [v4, (.func (.func (E.k 10)) #[] #[])] h fun v5 h =>
K v5 h)
| _ => False
def F.desk_Desk_Open (E : FE) : Spec := fun args h K => match args with
| [a0] =>
kv (binD (.ptr true) .eql true a0 (.pointer none) h) fun v0 =>
ifV v0 (
K (.slice none 0 0) h) (
kv (aNil a0) fun v1 =>
kv (fieldAddrD (some 2) v1) fun v2 =>
kv (ldD .one v2 h) fun v3 =>
cl (F.maps_Keys_map_api_Id_desk_trans_api_Id_desk_trans E) [v3] h fun v4 h =>
cl (F.slices_Collect_api_Id E) [v4] h fun v5 h =>
cl (F.name_New E) [v5] h fun v6 h =>
cl (F.name_Ids_All E) [v6] h fun v7 h =>
K v7 h)
| _ => False
def F.desk_trans_has (E : FE) : Spec := fun args h K => match args with
| [a0, a1] =>
kv (binD .bad .geq true a1 (.int .i64 0) h) fun v0 =>
kv (gdV v0 true (some a1)) fun v1 =>
kv (gdV v0 true (some a0)) fun v2 =>
kv (gdV v0 true (aNil v2)) fun v3 =>
kv (gdV v0 true (fieldAddrD (some 1) v3)) fun v4 =>
kv (gdV v0 true (ldD .one v4 h)) fun v5 =>
kv (gdV v0 true (lenD .slice v5 h)) fun v6 =>
kv (gdV v0 true (binD .bad .lss false v1 v6 h)) fun v7 =>
kv (pickV v0 v7 (.bool false)) fun v8 =>
kv (gdV v8 true (some a0)) fun v9 =>
kv (gdV v8 true (aNil v9)) fun v10 =>
kv (gdV v8 true (fieldAddrD (some 1) v10)) fun v11 =>
kv (gdV v8 true (ldD .one v11 h)) fun v12 =>
kv (gdV v8 true (some a1)) fun v13 =>
kv (gdV v8 true (indexAddrD (.slice 1) v12 v13)) fun v14 =>
kv (gdV v8 true (ldD .one v14 h)) fun v15 =>
kv (gdV v8 true (lenD .slice v15 h)) fun v16 =>
kv (gdV v8 true (binD .bad .gtr true v16 (.int .i64 0) h)) fun v17 =>
kv (pickV v8 v17 (.bool false)) fun v18 =>
K v18 h
| _ => False
def F.desk_trans_shards (E : FE) : Spec := fun args h K => match args with
| [a0] =>
kv (aNil a0) fun v0 =>
kv (fieldAddrD (some 1) v0) fun v1 =>
kv (ldD .one v1 h) fun v2 =>
kv (lenD .slice v2 h) fun v3 =>
∃ (Inv4 : Nat → List V → AHeap → Prop) (n4 : Nat), Inv4 n4 [(.slice none 0 0), (.int .i64 0)] h ∧ ∀ (n4 : Nat) (e4 : Nat → V) (h : AHeap), Inv4 n4 [(e4 3), (e4 10)] h →
kv (binD .bad .lss false (e4 10) v3 h) fun v5 =>
ifV v5 (
cl (F.desk_trans_has E) [a0, (e4 10)] h fun v6 h =>
ifV v6 (
kP (buildSliceD (some (1, [(.int .i64 0)])) 1 [(0, (e4 10))] h) fun v7 h =>
kP (appendD (some (1, 8, [(.int .i64 0)])) (e4 3) v7 h) fun v8 h =>
kv (binD .bad .add true (e4 10) (.int .i64 1) h) fun v9 =>
∃ m, m < n4 ∧ Inv4 m [v8, v9] h) (
kv (binD .bad .add true (e4 10) (.int .i64 1) h) fun v10 =>
∃ m, m < n4 ∧ Inv4 m [(e4 3), v10] h)) (
K (e4 3) h)
| _ => False
def F.op_bit (E : FE) : Spec := fun args h K => match args with
| [a0] =>
ifV a0 (
K (.int .i64 1) h) (
K (.int .i64 0) h)
| _ => False
def F.op_Word (E : FE) : Spec := fun args h K => match args with
| [a0, a1, a2, a3] =>
kP (newD none a1 h) fun v0 h =>
kP (newD none (.agg #[(.int .i64 0), (.slice none 0 0), (.slice none 0 0)]) h) fun v1 h =>
kv (binD .bad .neq true a0 (.int .i64 6) h) fun v2 =>
kv (gdV v2 true (some a0)) fun v3 =>
kv (gdV v2 true (binD .bad .neq true v3 (.int .i64 7) h)) fun v4 =>
kv (pickV v2 v4 (.bool false)) fun v5 =>
kv (gdV v5 false (ldD (.agg 2) v0 h)) fun v6 =>
gdC v5 false h (fun K7 => cl (F.op_Client E) [v6] h fun v h => K7 v h) fun v8 h =>
kv (gdV v5 false (aUn .not v8)) fun v9 =>
kv (pickV v5 (.bool true) v9) fun v10 =>
kv (gdV v10 false (some a2)) fun v11 =>
kv (gdV v10 false (binD .bad .lss true v11 (.int .i64 0) h)) fun v12 =>
kv (pickV v10 (.bool true) v12) fun v13 =>
kv (gdV v13 false (some a2)) fun v14 =>
kv (gdV v13 false (binD .bad .geq true v14 (.int .i64 3) h)) fun v15 =>
kv (pickV v13 (.bool true) v15) fun v16 =>
ifV v16 (
kv (buildD (.struct [(.int .i64 0), (.slice none 0 0), (.slice none 0 0)] [(0, 1), (1, 1), (2, 1)]) []) fun v17 =>
kH (stD (some 3) v1 v17 h) fun _ h =>
kv (ldD (.agg 3) v1 h) fun r18 =>
K (.tuple #[r18, (.bool false)]) h) (
kv (fieldAddrD (some 0) v0) fun v19 =>
kv (ldD .one v19 h) fun v20 =>
kv (fieldAddrD (some 1) v0) fun v21 =>
kv (ldD .one v21 h) fun v22 =>
cl (F.op_bit E) [a3] h fun v23 h =>
ldD .one v19 h = some v20 ∧
ldD .one v21 h = some v22 ∧
kP (buildSliceD (some (1, [(.int .i64 0)])) 4 [(0, v20), (1, v22), (2, a2), (3, v23)] h) fun v24 h =>
kv (buildD (.struct [(.int .i64 0), (.slice none 0 0), (.slice none 0 0)] [(0, 1), (1, 1), (2, 1)]) [(0, a0), (1, v24)]) fun v25 =>
kH (stD (some 3) v1 v25 h) fun _ h =>
kv (ldD (.agg 3) v1 h) fun r26 =>
K (.tuple #[r26, (.bool true)]) h)
| _ => False
def F.op_Of (E : FE) : Spec := fun args h K => match args with
| [a0, a1, a2] =>
cl (F.op_Parts E) [a0, a2] h fun v0 h =>
kv (binD .bad .lss true a1 (.int .i64 0) h) fun v1 =>
kv (gdV v1 false (some a1)) fun v2 =>
kv (gdV v1 false (some v0)) fun v3 =>
kv (gdV v1 false (lenD .slice v3 h)) fun v4 =>
kv (gdV v1 false (binD .bad .geq false v2 v4 h)) fun v5 =>
kv (pickV v1 (.bool true) v5) fun v6 =>
ifV v6 (
K (.slice none 0 0) h) (
kv (indexAddrD (.slice 1) v0 a1) fun v7 =>
kv (ldD .one v7 h) fun v8 =>
kv (lenD .slice v8 h) fun v9 =>
∃ (Inv10 : Nat → List V → AHeap → Prop) (n10 : Nat), Inv10 n10 [(.slice none 0 0), (.int .i64 0)] h ∧ ∀ (n10 : Nat) (e10 : Nat → V) (h : AHeap), Inv10 n10 [(e10 8), (e10 27)] h →
kv (binD .bad .lss false (e10 27) v9 h) fun v11 =>
ifV v11 (
kv (indexAddrD (.slice 1) v8 (e10 27)) fun v12 =>
kv (ldD .one v12 h) fun v13 =>
kv (indexAddrD (.slice 5) a0 v13) fun v14 =>
kv (ldD (.agg 5) v14 h) fun v15 =>
kP (buildSliceD (some (5, [(.int .i64 0), (.string ⟨#[]⟩), (.string ⟨#[]⟩), (.string ⟨#[]⟩), (.int .i64 0)])) 1 [(0, v15)] h) fun v16 h =>
kP (appendD (some (5, 64, [(.int .i64 0), (.string ⟨#[]⟩), (.string ⟨#[]⟩), (.string ⟨#[]⟩), (.int .i64 0)])) (e10 8) v16 h) fun v17 h =>
kv (binD .bad .add true (e10 27) (.int .i64 1) h) fun v18 =>
∃ m, m < n10 ∧ Inv10 m [v17, v18] h) (
K (e10 8) h))
| _ => False
def F.op_Put (E : FE) : Spec := fun args h K => match args with
| [a0, a1, a2] =>
kP (newD none a0 h) fun v0 h =>
kP (newD none (.agg #[(.int .i64 0), (.slice none 0 0), (.slice none 0 0)]) h) fun v1 h =>
kv (binD .bad .neq true a2 (.int .i64 3) h) fun v2 =>
kv (gdV v2 true (some a2)) fun v3 =>
kv (gdV v2 true (binD .bad .neq true v3 (.int .i64 4) h)) fun v4 =>
kv (pickV v2 v4 (.bool false)) fun v5 =>
kv (gdV v5 false (ldD (.agg 2) v0 h)) fun v6 =>
gdC v5 false h (fun K7 => cl (F.op_Client E) [v6] h fun v h => K7 v h) fun v8 h =>
kv (gdV v5 false (aUn .not v8)) fun v9 =>
kv (pickV v5 (.bool true) v9) fun v10 =>
kv (gdV v10 false (some a1)) fun v11 =>
gdC v10 false h (fun K12 => cl (F.op_All E) [v11] h fun v h => K12 v h) fun v13 h =>
kv (gdV v10 false (aUn .not v13)) fun v14 =>
kv (pickV v10 (.bool true) v14) fun v15 =>
ifV v15 (
kv (buildD (.struct [(.int .i64 0), (.slice none 0 0), (.slice none 0 0)] [(0, 1), (1, 1), (2, 1)]) []) fun v16 =>
kH (stD (some 3) v1 v16 h) fun _ h =>
kv (ldD (.agg 3) v1 h) fun r17 =>
K (.tuple #[r17, (.bool false)]) h) (
kv (fieldAddrD (some 0) v0) fun v18 =>
kv (ldD .one v18 h) fun v19 =>
kv (fieldAddrD (some 1) v0) fun v20 =>
kv (ldD .one v20 h) fun v21 =>
kP (buildSliceD (some (1, [(.int .i64 0)])) 2 [(0, v19), (1, v21)] h) fun v22 h =>
kv (buildD (.struct [(.int .i64 0), (.slice none 0 0), (.slice none 0 0)] [(0, 1), (1, 1), (2, 1)]) [(0, a2), (1, v22)]) fun v23 =>
kP (newD none (.agg #[(.int .i64 0), (.slice none 0 0), (.slice none 0 0)]) h) fun v24 h =>
kH (stD (some 3) v24 v23 h) fun _ h =>
kv (lenD .slice a1 h) fun v25 =>
∃ (Inv26 : Nat → List V → AHeap → Prop) (n26 : Nat), Inv26 n26 [(.int .i64 0)] h ∧ ∀ (n26 : Nat) (e26 : Nat → V) (h : AHeap), Inv26 n26 [(e26 37)] h →
kv (binD .bad .lss false (e26 37) v25 h) fun v27 =>
ifV v27 (
kv (indexAddrD (.slice 5) a1 (e26 37)) fun v28 =>
kv (ldD (.agg 5) v28 h) fun v29 =>
kP (newD none (.agg #[(.int .i64 0), (.string ⟨#[]⟩), (.string ⟨#[]⟩), (.string ⟨#[]⟩), (.int .i64 0)]) h) fun v30 h =>
kH (stD (some 5) v30 v29 h) fun _ h =>
kv (fieldAddrD (some 1) v24) fun v31 =>
kv (ldD .one v31 h) fun v32 =>
kv (fieldAddrD (some 0) v30) fun v33 =>
kv (ldD .one v33 h) fun v34 =>
kv (fieldAddrD (some 4) v30) fun v35 =>
kv (ldD .one v35 h) fun v36 =>
kP (buildSliceD (some (1, [(.int .i64 0)])) 2 [(0, v34), (1, v36)] h) fun v37 h =>
kP (appendD (some (1, 8, [(.int .i64 0)])) v32 v37 h) fun v38 h =>
kv (fieldAddrD (some 1) v24) fun v39 =>
kH (stD (some 1) v39 v38 h) fun _ h =>
kv (fieldAddrD (some 2) v24) fun v40 =>
kv (ldD .one v40 h) fun v41 =>
kv (fieldAddrD (some 1) v30) fun v42 =>
kv (ldD .one v42 h) fun v43 =>
kv (fieldAddrD (some 2) v30) fun v44 =>
kv (ldD .one v44 h) fun v45 =>
kv (fieldAddrD (some 3) v30) fun v46 =>
kv (ldD .one v46 h) fun v47 =>
kP (buildSliceD (some (1, [(.string ⟨#[]⟩)])) 3 [(0, v43), (1, v45), (2, v47)] h) fun v48 h =>
kP (appendD (some (1, 16, [(.string ⟨#[]⟩)])) v41 v48 h) fun v49 h =>
kv (fieldAddrD (some 2) v24) fun v50 =>
kH (stD (some 1) v50 v49 h) fun _ h =>
kv (binD .bad .add true (e26 37) (.int .i64 1) h) fun v51 =>
∃ m, m < n26 ∧ Inv26 m [v51] h) (
kv (ldD (.agg 3) v24 h) fun v52 =>
kH (stD (some 3) v1 v52 h) fun _ h =>
kv (ldD (.agg 3) v1 h) fun r53 =>
K (.tuple #[r53, (.bool true)]) h))
| _ => False
def F.desk_Desk_wants (E : FE) : Spec := fun args h K => match args with
| [a0, a1, a2] =>
kP (newD none a1 h) fun v0 h =>
cl (F.desk_trans_shards E) [a2] h fun v1 h =>
kv (lenD .slice v1 h) fun v2 =>
∃ (Inv3 : Nat → List V → AHeap → Prop) (n3 : Nat), Inv3 n3 [(.slice none 0 0), (.int .i64 0)] h ∧ ∀ (n3 : Nat) (e3 : Nat → V) (h : AHeap), Inv3 n3 [(e3 7), (e3 17)] h →
kv (binD .bad .lss false (e3 17) v2 h) fun v4 =>
ifV v4 (
kv (indexAddrD (.slice 1) v1 (e3 17)) fun v5 =>
kv (ldD .one v5 h) fun v6 =>
kP (newD none (.agg #[(.int .i64 0), (.int .i64 0), (.slice none 0 0), (.slice none 0 0)]) h) fun v7 h =>
kv (aNil a2) fun v8 =>
kv (fieldAddrD (some 2) v8) fun v9 =>
kv (ldD .one v9 h) fun v10 =>
kv (lookupD (some (.int, (some (.agg #[(.int .i64 0), (.int .i64 0), (.int .i64 0), (.bool false), (.int .i64 0), (.slice none 0 0)])))) v10 v6 true h) fun v11 =>
kv (aExtract v11 0) fun v12 =>
kv (aExtract v11 1) fun v13 =>
kP (newD none (.agg #[(.int .i64 0), (.int .i64 0), (.int .i64 0), (.bool false), (.int .i64 0), (.slice none 0 0)]) h) fun v14 h =>
kH (stD (some 6) v14 v12 h) fun _ h =>
∃ K15 : List V → AHeap → Prop, (
kv (aNil a2) fun v16 =>
kv (fieldAddrD (some 3) v16) fun v17 =>
kv (ldD .one v17 h) fun v18 =>
kv (gdV v18 true (some a2)) fun v19 =>
kv (gdV v18 true (aNil v19)) fun v20 =>
kv (gdV v18 true (fieldAddrD (some 5) v20)) fun v21 =>
kv (gdV v18 true (ldD .one v21 h)) fun v22 =>
kv (gdV v18 true (some v6)) fun v23 =>
kv (gdV v18 true (lookupD (some (.int, (some (.bool false)))) v22 v23 false h)) fun v24 =>
kv (gdV v18 true (aUn .not v24)) fun v25 =>
kv (pickV v18 v25 (.bool false)) fun v26 =>
ifV v26 (
kv (ldD (.agg 2) v0 h) fun v27 =>
kv (aNil a2) fun v28 =>
kv (fieldAddrD (some 4) v28) fun v29 =>
kv (ldD .one v29 h) fun v30 =>
cl (F.op_Word E) [(.int .i64 6), v27, v6, v30] h fun v31 h =>
kv (aExtract v31 0) fun v32 =>
kv (aExtract v31 1) fun v33 =>
kv (fieldAddrD (some 1) v7) fun v34 =>
kH (stD (some 3) v34 v32 h) fun _ h =>
K15 [v33] h) (
kv (aNil a2) fun v35 =>
kv (fieldAddrD (some 3) v35) fun v36 =>
kv (ldD .one v36 h) fun v37 =>
kv (aUn .not v37) fun v38 =>
kv (gdV v38 true (some v13)) fun v39 =>
kv (gdV v38 true (aUn .not v39)) fun v40 =>
kv (pickV v38 v40 (.bool false)) fun v41 =>
ifV v41 (
kv (ldD (.agg 2) v0 h) fun v42 =>
kv (aNil a2) fun v43 =>
kv (fieldAddrD (some 0) v43) fun v44 =>
kv (ldD .one v44 h) fun v45 =>
kv (aNil a0) fun v46 =>
kv (fieldAddrD (some 0) v46) fun v47 =>
kv (ldD .one v47 h) fun v48 =>
cl (F.op_Of E) [v45, v6, v48] h fun v49 h =>
ldD (.agg 2) v0 h = some v42 ∧
cl (F.op_Put E) [v42, v49, (.int .i64 4)] h fun v50 h =>
kv (aExtract v50 0) fun v51 =>
kv (aExtract v50 1) fun v52 =>
kv (fieldAddrD (some 1) v7) fun v53 =>
kH (stD (some 3) v53 v51 h) fun _ h =>
K15 [v52] h) (
K15 [(.bool false)] h))) ∧ ∀ (e15 : Nat → V) (h : AHeap), K15 [(e15 11)] h →
kv (fieldAddrD (some 0) v7) fun v54 =>
kH (stD (some 1) v54 v6 h) fun _ h =>
ifV (e15 11) (
kv (ldD (.agg 4) v7 h) fun v55 =>
kP (buildSliceD (some (4, [(.int .i64 0), (.int .i64 0), (.slice none 0 0), (.slice none 0 0)])) 1 [(0, v55)] h) fun v56 h =>
kP (appendD (some (4, 64, [(.int .i64 0), (.int .i64 0), (.slice none 0 0), (.slice none 0 0)])) (e3 7) v56 h) fun v57 h =>
kv (binD .bad .add true (e3 17) (.int .i64 1) h) fun v58 =>
∃ m, m < n3 ∧ Inv3 m [v57, v58] h) (
kv (binD .bad .add true (e3 17) (.int .i64 1) h) fun v59 =>
∃ m, m < n3 ∧ Inv3 m [(e3 7), v59] h)) (
K (e3 7) h)
| _ => False
def F.desk_Desk_Wants (E : FE) : Spec := fun args h K => match args with
| [a0] =>
cl (F.desk_Desk_Open E) [a0] h fun v0 h =>
kv (lenD .slice v0 h) fun v1 =>
∃ (Inv2 : Nat → List V → AHeap → Prop) (n2 : Nat), Inv2 n2 [(.slice none 0 0), (.int .i64 0)] h ∧ ∀ (n2 : Nat) (e2 : Nat → V) (h : AHeap), Inv2 n2 [(e2 3), (e2 9)] h →
kv (binD .bad .lss false (e2 9) v1 h) fun v3 =>
ifV v3 (
kv (indexAddrD (.slice 2) v0 (e2 9)) fun v4 =>
kv (ldD (.agg 2) v4 h) fun v5 =>
kP (newD none (.agg #[(.int .i64 0), (.int .i64 0)]) h) fun v6 h =>
kH (stD (some 2) v6 v5 h) fun _ h =>
kv (ldD (.agg 2) v6 h) fun v7 =>
kv (aNil a0) fun v8 =>
kv (fieldAddrD (some 2) v8) fun v9 =>
kv (ldD .one v9 h) fun v10 =>
kv (ldD (.agg 2) v6 h) fun v11 =>
kv (lookupD (some ((.struct false [(0, .int), (1, .int)]), (some (.pointer none)))) v10 v11 false h) fun v12 =>
cl (F.desk_Desk_wants E) [a0, v7, v12] h fun v13 h =>
kP (appendD (some (4, 64, [(.int .i64 0), (.int .i64 0), (.slice none 0 0), (.slice none 0 0)])) (e2 3) v13 h) fun v14 h =>
kv (binD .bad .add true (e2 9) (.int .i64 1) h) fun v15 =>
∃ m, m < n2 ∧ Inv2 m [v14, v15] h) (
K (e2 3) h)
| _ => False
def F.slices_Clone_Sstring_string (E : FE) : Spec := fun args h K => match args with
| [a0] =>
kv (binD .slice .eql true a0 (.slice none 0 0) h) fun v0 =>
ifV v0 (
K (.slice none 0 0) h) (
kP (buildSliceD (some (1, [(.string ⟨#[]⟩)])) 0 [] h) fun v1 h =>
kP (appendD (some (1, 16, [(.string ⟨#[]⟩)])) v1 a0 h) fun v2 h =>
K v2 h)
| _ => False
def F.desk_Desk_keep (E : FE) : Spec := fun args h K => match args with
| [a0, a1, a2] =>
kP (newD none a1 h) fun v0 h =>
kv (ldD (.agg 2) v0 h) fun v1 =>
kv (buildD (.struct [(.int .i64 0), (.int .i64 0), (.int .i64 0), (.slice none 0 0)] [(0, 2), (2, 1), (3, 1)]) [(0, v1), (1, (.int .i64 4))]) fun v2 =>
kP (newD none (.agg #[(.int .i64 0), (.int .i64 0), (.int .i64 0), (.slice none 0 0)]) h) fun v3 h =>
kH (stD (some 4) v3 v2 h) fun _ h =>
kv (aNil a2) fun v4 =>
kv (fieldAddrD (some 4) v4) fun v5 =>
kv (ldD .one v5 h) fun v6 =>
∃ K7 : List V → AHeap → Prop, (
ifV v6 (
∃ K8 : List V → AHeap → Prop, (
kv (aNil a2) fun v9 =>
kv (fieldAddrD (some 0) v9) fun v10 =>
kv (ldD .one v10 h) fun v11 =>
kv (lenD .slice v11 h) fun v12 =>
kv (aNil a2) fun v13 =>
kv (fieldAddrD (some 0) v13) fun v14 =>
kv (ldD .one v14 h) fun v15 =>
kv (lenD .slice v15 h) fun v16 =>
kv (fieldAddrD (some 2) v3) fun v17 =>
((kP (makeSliceD (some (1, 16, [(.string ⟨#[]⟩)])) v12 v12 h) fun v18 h =>
ldD .one v14 h = some v15 ∧
(kP (makeSliceD (some (1, 8, [(.int .i64 0)])) v16 v16 h) fun v19 h =>
ldD .one v10 h = some v11 ∧
kH (stD (some 1) v17 (.int .i64 0) h) fun _ h =>
ldD .one v10 h = some v11 ∧
ldD .one v14 h = some v15 ∧
kv (fieldAddrD (some 3) v3) fun v20 =>
kH (stD (some 1) v20 v18 h) fun _ h =>
ldD .one v14 h = some v15 ∧
kv (aNil a2) fun v21 =>
kv (fieldAddrD (some 6) v21) fun v22 =>
kH (stD (some 1) v22 v19 h) fun _ h =>
K8 [] h) ∧
(kH (stD (some 1) v17 (.int .i64 0) h) fun _ h =>
ldD .one v10 h = some v11 ∧
ldD .one v14 h = some v15 ∧
kv (fieldAddrD (some 3) v3) fun v23 =>
(kP (makeSliceD (some (1, 8, [(.int .i64 0)])) v16 v16 h) fun v24 h =>
ldD .one v10 h = some v11 ∧
kH (stD (some 1) v23 v18 h) fun _ h =>
ldD .one v14 h = some v15 ∧
kv (aNil a2) fun v25 =>
kv (fieldAddrD (some 6) v25) fun v26 =>
kH (stD (some 1) v26 v24 h) fun _ h =>
K8 [] h) ∧
(kH (stD (some 1) v23 v18 h) fun _ h =>
ldD .one v14 h = some v15 ∧
kP (makeSliceD (some (1, 8, [(.int .i64 0)])) v16 v16 h) fun v27 h =>
ldD .one v10 h = some v11 ∧
kv (aNil a2) fun v28 =>
kv (fieldAddrD (some 6) v28) fun v29 =>
kH (stD (some 1) v29 v27 h) fun _ h =>
K8 [] h))) ∧
(kP (makeSliceD (some (1, 8, [(.int .i64 0)])) v16 v16 h) fun v30 h =>
ldD .one v10 h = some v11 ∧
(kP (makeSliceD (some (1, 16, [(.string ⟨#[]⟩)])) v12 v12 h) fun v31 h =>
ldD .one v14 h = some v15 ∧
kH (stD (some 1) v17 (.int .i64 0) h) fun _ h =>
ldD .one v10 h = some v11 ∧
ldD .one v14 h = some v15 ∧
kv (fieldAddrD (some 3) v3) fun v32 =>
kH (stD (some 1) v32 v31 h) fun _ h =>
ldD .one v14 h = some v15 ∧
kv (aNil a2) fun v33 =>
kv (fieldAddrD (some 6) v33) fun v34 =>
kH (stD (some 1) v34 v30 h) fun _ h =>
K8 [] h) ∧
(kH (stD (some 1) v17 (.int .i64 0) h) fun _ h =>
ldD .one v10 h = some v11 ∧
ldD .one v14 h = some v15 ∧
kP (makeSliceD (some (1, 16, [(.string ⟨#[]⟩)])) v12 v12 h) fun v35 h =>
ldD .one v14 h = some v15 ∧
kv (fieldAddrD (some 3) v3) fun v36 =>
kH (stD (some 1) v36 v35 h) fun _ h =>
ldD .one v14 h = some v15 ∧
kv (aNil a2) fun v37 =>
kv (fieldAddrD (some 6) v37) fun v38 =>
kH (stD (some 1) v38 v30 h) fun _ h =>
K8 [] h))) ∧
(kH (stD (some 1) v17 (.int .i64 0) h) fun _ h =>
ldD .one v10 h = some v11 ∧
ldD .one v14 h = some v15 ∧
(kP (makeSliceD (some (1, 16, [(.string ⟨#[]⟩)])) v12 v12 h) fun v39 h =>
ldD .one v14 h = some v15 ∧
kv (fieldAddrD (some 3) v3) fun v40 =>
(kP (makeSliceD (some (1, 8, [(.int .i64 0)])) v16 v16 h) fun v41 h =>
ldD .one v10 h = some v11 ∧
kH (stD (some 1) v40 v39 h) fun _ h =>
ldD .one v14 h = some v15 ∧
kv (aNil a2) fun v42 =>
kv (fieldAddrD (some 6) v42) fun v43 =>
kH (stD (some 1) v43 v41 h) fun _ h =>
K8 [] h) ∧
(kH (stD (some 1) v40 v39 h) fun _ h =>
ldD .one v14 h = some v15 ∧
kP (makeSliceD (some (1, 8, [(.int .i64 0)])) v16 v16 h) fun v44 h =>
ldD .one v10 h = some v11 ∧
kv (aNil a2) fun v45 =>
kv (fieldAddrD (some 6) v45) fun v46 =>
kH (stD (some 1) v46 v44 h) fun _ h =>
K8 [] h)) ∧
(kP (makeSliceD (some (1, 8, [(.int .i64 0)])) v16 v16 h) fun v47 h =>
ldD .one v10 h = some v11 ∧
kP (makeSliceD (some (1, 16, [(.string ⟨#[]⟩)])) v12 v12 h) fun v48 h =>
ldD .one v14 h = some v15 ∧
kv (fieldAddrD (some 3) v3) fun v49 =>
kH (stD (some 1) v49 v48 h) fun _ h =>
ldD .one v14 h = some v15 ∧
kv (aNil a2) fun v50 =>
kv (fieldAddrD (some 6) v50) fun v51 =>
kH (stD (some 1) v51 v47 h) fun _ h =>
K8 [] h))) ∧ ∀ (e8 : Nat → V) (h : AHeap), K8 [] h →
kv (aNil a2) fun v52 =>
kv (fieldAddrD (some 2) v52) fun v53 =>
kv (ldD .one v53 h) fun v54 =>
kP (rangeD .map v54 h) fun v55 h =>
∃ (Inv56 : Nat → List V → AHeap → Prop) (n56 : Nat), Inv56 n56 [] h ∧ ∀ (n56 : Nat) (e56 : Nat → V) (h : AHeap), Inv56 n56 [] h →
aNext v55 false h fun v57 h =>
kv (aExtract v57 0) fun v58 =>
ifV v58 (
kV (aEntry v55 h) h fun v59 h =>
kv (aExtract v59 0) fun v60 =>
kv (aExtract v59 1) fun v61 =>
kP (newD none (.agg #[(.int .i64 0), (.int .i64 0), (.int .i64 0), (.bool false), (.int .i64 0), (.slice none 0 0)]) h) fun v62 h =>
kH (stD (some 6) v62 v61 h) fun _ h =>
kv (aNil a2) fun v63 =>
kv (fieldAddrD (some 1) v63) fun v64 =>
kv (ldD .one v64 h) fun v65 =>
kv (indexAddrD (.slice 1) v65 v60) fun v66 =>
kv (ldD .one v66 h) fun v67 =>
kv (lenD .slice v67 h) fun v68 =>
∃ (Inv69 : Nat → List V → AHeap → Prop) (n69 : Nat), Inv69 n69 [(.int .i64 0)] h ∧ ∀ (n69 : Nat) (e69 : Nat → V) (h : AHeap), Inv69 n69 [(e69 53)] h →
kv (binD .bad .lss false (e69 53) v68 h) fun v70 =>
ifV v70 (
kv (indexAddrD (.slice 1) v67 (e69 53)) fun v71 =>
kv (ldD .one v71 h) fun v72 =>
kv (fieldAddrD (some 3) v3) fun v73 =>
kv (ldD .one v73 h) fun v74 =>
kv (aNil a2) fun v75 =>
kv (fieldAddrD (some 6) v75) fun v76 =>
kv (ldD .one v76 h) fun v77 =>
kv (fieldAddrD (some 5) v62) fun v78 =>
kv (ldD .one v78 h) fun v79 =>
kv (indexAddrD (.slice 1) v79 (e69 53)) fun v80 =>
kv (ldD .one v80 h) fun v81 =>
kv (fieldAddrD (some 4) v62) fun v82 =>
kv (ldD .one v82 h) fun v83 =>
kv (indexAddrD (.slice 1) v74 v72) fun v84 =>
kH (stD (some 1) v84 v81 h) fun _ h =>
ldD .one v82 h = some v83 ∧
kv (indexAddrD (.slice 1) v77 v72) fun v85 =>
kH (stD (some 1) v85 v83 h) fun _ h =>
kv (binD .bad .add true (e69 53) (.int .i64 1) h) fun v86 =>
∃ m, m < n69 ∧ Inv69 m [v86] h) (
∃ m, m < n56 ∧ Inv56 m [] h)) (
K7 [] h)) (
K7 [] h)) ∧ ∀ (e7 : Nat → V) (h : AHeap), K7 [] h →
kv (aNil a0) fun v87 =>
kv (fieldAddrD (some 3) v87) fun v88 =>
kv (ldD .one v88 h) fun v89 =>
kv (fieldAddrD (some 0) v0) fun v90 =>
kv (ldD .one v90 h) fun v91 =>
kv (lookupD (some (.int, (some (.slice none 0 0)))) v89 v91 false h) fun v92 =>
kv (ldD (.agg 4) v3 h) fun v93 =>
kP (buildSliceD (some (4, [(.int .i64 0), (.int .i64 0), (.int .i64 0), (.slice none 0 0)])) 1 [(0, v93)] h) fun v94 h =>
ldD .one v88 h = some v89 ∧
ldD .one v90 h = some v91 ∧
lookupD (some (.int, (some (.slice none 0 0)))) v89 v91 false h = some v92 ∧
kP (appendD (some (4, 48, [(.int .i64 0), (.int .i64 0), (.int .i64 0), (.slice none 0 0)])) v92 v94 h) fun v95 h =>
kv (aNil a0) fun v96 =>
kv (fieldAddrD (some 3) v96) fun v97 =>
kv (ldD .one v97 h) fun v98 =>
kv (fieldAddrD (some 0) v0) fun v99 =>
kv (ldD .one v99 h) fun v100 =>
kv (lenD .slice v95 h) fun v101 =>
kv (binD .bad .sub true v101 (.int .i64 8) h) fun v102 =>
kv (aMinMax true [v102, (.int .i64 0)]) fun v103 =>
kv (sliceD (.slice 4) v95 (some v103) none none h) fun v104 =>
kH (mapUpdateD (some (.int, (some (.slice none 0 0)))) v98 v100 v104 h) fun _ h =>
K (.tuple #[]) h
| _ => False
def F.desk_Desk_Vote (E : FE) : Spec := fun args h K => match args with
| [a0, a1] =>
kP (newD none a1 h) fun v0 h =>
kv (binD (.ptr true) .eql true a0 (.pointer none) h) fun v1 =>
ifV v1 (
K (.bool false) h) (
kv (aNil a0) fun v2 =>
kv (fieldAddrD (some 2) v2) fun v3 =>
kv (ldD .one v3 h) fun v4 =>
kv (fieldAddrD (some 0) v0) fun v5 =>
kv (ldD (.agg 2) v5 h) fun v6 =>
kv (lookupD (some ((.struct false [(0, .int), (1, .int)]), (some (.pointer none)))) v4 v6 false h) fun v7 =>
kv (binD (.ptr true) .eql true v7 (.pointer none) h) fun v8 =>
kv (gdV v8 false (some v7)) fun v9 =>
kv (gdV v8 false (aNil v9)) fun v10 =>
kv (gdV v8 false (fieldAddrD (some 3) v10)) fun v11 =>
kv (gdV v8 false (ldD .one v11 h)) fun v12 =>
kv (pickV v8 (.bool true) v12) fun v13 =>
kv (gdV v13 false (some v7)) fun v14 =>
kv (gdV v13 false (fieldAddrD (some 2) v0)) fun v15 =>
kv (gdV v13 false (ldD .one v15 h)) fun v16 =>
gdC v13 false h (fun K17 => cl (F.desk_trans_has E) [v14, v16] h fun v h => K17 v h) fun v18 h =>
kv (gdV v13 false (aUn .not v18)) fun v19 =>
kv (pickV v13 (.bool true) v19) fun v20 =>
ifV v20 (
K (.bool false) h) (
kv (aNil v7) fun v21 =>
kv (fieldAddrD (some 2) v21) fun v22 =>
kv (ldD .one v22 h) fun v23 =>
kv (fieldAddrD (some 2) v0) fun v24 =>
kv (ldD .one v24 h) fun v25 =>
kv (lookupD (some (.int, (some (.agg #[(.int .i64 0), (.int .i64 0), (.int .i64 0), (.bool false), (.int .i64 0), (.slice none 0 0)])))) v23 v25 true h) fun v26 =>
kv (aExtract v26 0) fun v27 =>
kv (aExtract v26 1) fun v28 =>
kP (newD none (.agg #[(.int .i64 0), (.int .i64 0), (.int .i64 0), (.bool false), (.int .i64 0), (.slice none 0 0)]) h) fun v29 h =>
ldD .one v22 h = some v23 ∧
ldD .one v24 h = some v25 ∧
lookupD (some (.int, (some (.agg #[(.int .i64 0), (.int .i64 0), (.int .i64 0), (.bool false), (.int .i64 0), (.slice none 0 0)])))) v23 v25 true h = some v26 ∧
kH (stD (some 6) v29 v27 h) fun _ h =>
kv (gdV v28 false (fieldAddrD (some 3) v0)) fun v30 =>
kv (gdV v28 false (ldD .one v30 h)) fun v31 =>
kv (gdV v28 false (some v31)) fun v32 =>
kv (gdV v32 true (fieldAddrD (some 5) v0)) fun v33 =>
kv (gdV v32 true (ldD .one v33 h)) fun v34 =>
kv (gdV v32 true (lenD .slice v34 h)) fun v35 =>
kv (gdV v32 true (some v7)) fun v36 =>
kv (gdV v32 true (aNil v36)) fun v37 =>
kv (gdV v32 true (fieldAddrD (some 1) v37)) fun v38 =>
kv (gdV v32 true (ldD .one v38 h)) fun v39 =>
kv (gdV v32 true (fieldAddrD (some 2) v0)) fun v40 =>
kv (gdV v32 true (ldD .one v40 h)) fun v41 =>
kv (gdV v32 true (indexAddrD (.slice 1) v39 v41)) fun v42 =>
kv (gdV v32 true (ldD .one v42 h)) fun v43 =>
kv (gdV v32 true (lenD .slice v43 h)) fun v44 =>
kv (gdV v32 true (binD .bad .neq false v35 v44 h)) fun v45 =>
kv (gdV v28 false (pickV v32 v45 (.bool false))) fun v46 =>
kv (pickV v28 (.bool true) v46) fun v47 =>
ifV v47 (
K (.bool false) h) (
kv (fieldAddrD (some 5) v0) fun v48 =>
kv (ldD .one v48 h) fun v49 =>
cl (F.slices_Clone_Sstring_string E) [v49] h fun v50 h =>
kv (fieldAddrD (some 5) v0) fun v51 =>
kH (stD (some 1) v51 v50 h) fun _ h =>
kv (aNil v7) fun v52 =>
kv (fieldAddrD (some 2) v52) fun v53 =>
kv (ldD .one v53 h) fun v54 =>
kv (fieldAddrD (some 2) v0) fun v55 =>
kv (ldD .one v55 h) fun v56 =>
kv (ldD (.agg 6) v0 h) fun v57 =>
kH (mapUpdateD (some (.int, (some (.agg #[(.int .i64 0), (.int .i64 0), (.int .i64 0), (.bool false), (.int .i64 0), (.slice none 0 0)])))) v54 v56 v57 h) fun _ h =>
kv (fieldAddrD (some 3) v0) fun v58 =>
kv (ldD .one v58 h) fun v59 =>
kv (gdV v59 true (some v7)) fun v60 =>
kv (gdV v59 true (aNil v60)) fun v61 =>
kv (gdV v59 true (fieldAddrD (some 2) v61)) fun v62 =>
kv (gdV v59 true (ldD .one v62 h)) fun v63 =>
kv (gdV v59 true (lenD .map v63 h)) fun v64 =>
kv (gdV v59 true (some v7)) fun v65 =>
gdC v59 true h (fun K66 => cl (F.desk_trans_shards E) [v65] h fun v h => K66 v h) fun v67 h =>
kv (gdV v59 true (lenD .slice v67 h)) fun v68 =>
kv (gdV v59 true (binD .bad .lss false v64 v68 h)) fun v69 =>
kv (pickV v59 v69 (.bool false)) fun v70 =>
ifV v70 (
K (.bool false) h) (
kv (fieldAddrD (some 3) v0) fun v71 =>
kv (ldD .one v71 h) fun v72 =>
kv (aNil v7) fun v73 =>
kv (fieldAddrD (some 3) v73) fun v74 =>
kH (stD (some 1) v74 (.bool true) h) fun _ h =>
ldD .one v71 h = some v72 ∧
kv (aNil v7) fun v75 =>
kv (fieldAddrD (some 4) v75) fun v76 =>
kH (stD (some 1) v76 v72 h) fun _ h =>
kv (fieldAddrD (some 0) v0) fun v77 =>
kv (ldD (.agg 2) v77 h) fun v78 =>
cl (F.desk_Desk_keep E) [a0, v78, v7] h fun v79 h =>
K (.bool true) h))))
| _ => False
def F.desk_Desk_Answer (E : FE) : Spec := fun args h K => match args with
| [a0, a1] =>
kP (newD none a1 h) fun v0 h =>
kP (newD none (.agg #[(.int .i64 0), (.int .i64 0), (.int .i64 0), (.slice none 0 0)]) h) fun v1 h =>
kv (binD (.ptr true) .eql true a0 (.pointer none) h) fun v2 =>
ifV v2 (
kv (buildD (.struct [(.int .i64 0), (.int .i64 0), (.int .i64 0), (.slice none 0 0)] [(0, 2), (2, 1), (3, 1)]) []) fun v3 =>
kH (stD (some 4) v1 v3 h) fun _ h =>
kv (ldD (.agg 4) v1 h) fun r4 =>
K (.tuple #[r4, (.bool false)]) h) (
kv (aNil a0) fun v5 =>
kv (fieldAddrD (some 3) v5) fun v6 =>
kv (ldD .one v6 h) fun v7 =>
kv (fieldAddrD (some 0) v0) fun v8 =>
kv (ldD .one v8 h) fun v9 =>
kv (lookupD (some (.int, (some (.slice none 0 0)))) v7 v9 false h) fun v10 =>
kv (lenD .slice v10 h) fun v11 =>
∃ (Inv12 : Nat → List V → AHeap → Prop) (n12 : Nat), Inv12 n12 [(.int .i64 0)] h ∧ ∀ (n12 : Nat) (e12 : Nat → V) (h : AHeap), Inv12 n12 [(e12 19)] h →
kv (binD .bad .lss false (e12 19) v11 h) fun v13 =>
ifV v13 (
kv (indexAddrD (.slice 4) v10 (e12 19)) fun v14 =>
kv (ldD (.agg 4) v14 h) fun v15 =>
kP (newD none (.agg #[(.int .i64 0), (.int .i64 0), (.int .i64 0), (.slice none 0 0)]) h) fun v16 h =>
kH (stD (some 4) v16 v15 h) fun _ h =>
kv (fieldAddrD (some 0) v16) fun v17 =>
kv (ldD (.agg 2) v17 h) fun v18 =>
kv (ldD (.agg 2) v0 h) fun v19 =>
kv (binD (.struct [(0, .int), (1, .int)]) .eql false v18 v19 h) fun v20 =>
ifV v20 (
kv (fieldAddrD (some 3) v16) fun v21 =>
kv (ldD .one v21 h) fun v22 =>
cl (F.slices_Clone_Sstring_string E) [v22] h fun v23 h =>
kv (fieldAddrD (some 3) v16) fun v24 =>
kH (stD (some 1) v24 v23 h) fun _ h =>
kv (ldD (.agg 4) v16 h) fun v25 =>
kH (stD (some 4) v1 v25 h) fun _ h =>
kv (ldD (.agg 4) v1 h) fun r26 =>
K (.tuple #[r26, (.bool true)]) h) (
kv (binD .bad .add true (e12 19) (.int .i64 1) h) fun v27 =>
∃ m, m < n12 ∧ Inv12 m [v27] h)) (
kv (ldD (.agg 2) v0 h) fun v28 =>
cl (F.op_Client E) [v28] h fun v29 h =>
kv (gdV v29 true (fieldAddrD (some 1) v0)) fun v30 =>
kv (gdV v29 true (ldD .one v30 h)) fun v31 =>
kv (gdV v29 true (some a0)) fun v32 =>
kv (gdV v29 true (aNil v32)) fun v33 =>
kv (gdV v29 true (fieldAddrD (some 1) v33)) fun v34 =>
kv (gdV v29 true (ldD .one v34 h)) fun v35 =>
kv (gdV v29 true (fieldAddrD (some 0) v0)) fun v36 =>
kv (gdV v29 true (ldD .one v36 h)) fun v37 =>
kv (gdV v29 true (lookupD (some (.int, (some (.int .i64 0)))) v35 v37 false h)) fun v38 =>
kv (gdV v29 true (binD .bad .leq false v31 v38 h)) fun v39 =>
kv (pickV v29 v39 (.bool false)) fun v40 =>
kv (gdV v40 true (some a0)) fun v41 =>
kv (gdV v40 true (aNil v41)) fun v42 =>
kv (gdV v40 true (fieldAddrD (some 2) v42)) fun v43 =>
kv (gdV v40 true (ldD .one v43 h)) fun v44 =>
kv (gdV v40 true (ldD (.agg 2) v0 h)) fun v45 =>
kv (gdV v40 true (lookupD (some ((.struct false [(0, .int), (1, .int)]), (some (.pointer none)))) v44 v45 false h)) fun v46 =>
kv (gdV v40 true (binD (.ptr true) .eql true v46 (.pointer none) h)) fun v47 =>
kv (pickV v40 v47 (.bool false)) fun v48 =>
ifV v48 (
kv (ldD (.agg 2) v0 h) fun v49 =>
kv (buildD (.struct [(.int .i64 0), (.int .i64 0), (.int .i64 0), (.slice none 0 0)] [(0, 2), (2, 1), (3, 1)]) [(0, v49), (1, (.int .i64 5))]) fun v50 =>
kH (stD (some 4) v1 v50 h) fun _ h =>
kv (ldD (.agg 4) v1 h) fun r51 =>
K (.tuple #[r51, (.bool true)]) h) (
kv (buildD (.struct [(.int .i64 0), (.int .i64 0), (.int .i64 0), (.slice none 0 0)] [(0, 2), (2, 1), (3, 1)]) []) fun v52 =>
kH (stD (some 4) v1 v52 h) fun _ h =>
kv (ldD (.agg 4) v1 h) fun r53 =>
K (.tuple #[r53, (.bool false)]) h)))
| _ => False
def F.slices_Clone_Sint64_int64 (E : FE) : Spec := fun args h K => match args with
| [a0] =>
kv (binD .slice .eql true a0 (.slice none 0 0) h) fun v0 =>
ifV v0 (
K (.slice none 0 0) h) (
kP (buildSliceD (some (1, [(.int .i64 0)])) 0 [] h) fun v1 h =>
kP (appendD (some (1, 8, [(.int .i64 0)])) v1 a0 h) fun v2 h =>
K v2 h)
| _ => False
def F.desk_Desk_Nows (E : FE) : Spec := fun args h K => match args with
| [a0, a1] =>
kP (newD none a1 h) fun v0 h =>
kv (binD (.ptr true) .eql true a0 (.pointer none) h) fun v1 =>
kv (gdV v1 false (some a0)) fun v2 =>
kv (gdV v1 false (aNil v2)) fun v3 =>
kv (gdV v1 false (fieldAddrD (some 2) v3)) fun v4 =>
kv (gdV v1 false (ldD .one v4 h)) fun v5 =>
kv (gdV v1 false (ldD (.agg 2) v0 h)) fun v6 =>
kv (gdV v1 false (lookupD (some ((.struct false [(0, .int), (1, .int)]), (some (.pointer none)))) v5 v6 false h)) fun v7 =>
kv (gdV v1 false (binD (.ptr true) .eql true v7 (.pointer none) h)) fun v8 =>
kv (pickV v1 (.bool true) v8) fun v9 =>
ifV v9 (
K (.slice none 0 0) h) (
kv (aNil a0) fun v10 =>
kv (fieldAddrD (some 2) v10) fun v11 =>
kv (ldD .one v11 h) fun v12 =>
kv (ldD (.agg 2) v0 h) fun v13 =>
kv (lookupD (some ((.struct false [(0, .int), (1, .int)]), (some (.pointer none)))) v12 v13 false h) fun v14 =>
kv (aNil v14) fun v15 =>
kv (fieldAddrD (some 6) v15) fun v16 =>
kv (ldD .one v16 h) fun v17 =>
cl (F.slices_Clone_Sint64_int64 E) [v17] h fun v18 h =>
K v18 h)
| _ => False
def F.desk_Desk_Done (E : FE) : Spec := fun args h K => match args with
| [a0, a1, a2] =>
kP (newD none a1 h) fun v0 h =>
kv (binD (.ptr true) .eql true a0 (.pointer none) h) fun v1 =>
ifV v1 (
K (.bool false) h) (
kv (aNil a0) fun v2 =>
kv (fieldAddrD (some 2) v2) fun v3 =>
kv (ldD .one v3 h) fun v4 =>
kv (ldD (.agg 2) v0 h) fun v5 =>
kv (lookupD (some ((.struct false [(0, .int), (1, .int)]), (some (.pointer none)))) v4 v5 false h) fun v6 =>
kv (binD (.ptr true) .eql true v6 (.pointer none) h) fun v7 =>
kv (gdV v7 false (some v6)) fun v8 =>
kv (gdV v7 false (aNil v8)) fun v9 =>
kv (gdV v7 false (fieldAddrD (some 3) v9)) fun v10 =>
kv (gdV v7 false (ldD .one v10 h)) fun v11 =>
kv (gdV v7 false (aUn .not v11)) fun v12 =>
kv (pickV v7 (.bool true) v12) fun v13 =>
kv (gdV v13 false (some v6)) fun v14 =>
kv (gdV v13 false (some a2)) fun v15 =>
gdC v13 false h (fun K16 => cl (F.desk_trans_has E) [v14, v15] h fun v h => K16 v h) fun v17 h =>
kv (gdV v13 false (aUn .not v17)) fun v18 =>
kv (pickV v13 (.bool true) v18) fun v19 =>
kv (gdV v19 false (some v6)) fun v20 =>
kv (gdV v19 false (aNil v20)) fun v21 =>
kv (gdV v19 false (fieldAddrD (some 5) v21)) fun v22 =>
kv (gdV v19 false (ldD .one v22 h)) fun v23 =>
kv (gdV v19 false (some a2)) fun v24 =>
kv (gdV v19 false (lookupD (some (.int, (some (.bool false)))) v23 v24 false h)) fun v25 =>
kv (pickV v19 (.bool true) v25) fun v26 =>
ifV v26 (
K (.bool false) h) (
kv (aNil v6) fun v27 =>
kv (fieldAddrD (some 5) v27) fun v28 =>
kv (ldD .one v28 h) fun v29 =>
kH (mapUpdateD (some (.int, (some (.bool false)))) v29 a2 (.bool true) h) fun _ h =>
kv (aNil v6) fun v30 =>
kv (fieldAddrD (some 5) v30) fun v31 =>
kv (ldD .one v31 h) fun v32 =>
kv (lenD .map v32 h) fun v33 =>
cl (F.desk_trans_shards E) [v6] h fun v34 h =>
kv (lenD .slice v34 h) fun v35 =>
kv (binD .bad .eql false v33 v35 h) fun v36 =>
ifV v36 (
kv (aNil a0) fun v37 =>
kv (fieldAddrD (some 2) v37) fun v38 =>
kv (ldD .one v38 h) fun v39 =>
kv (ldD (.agg 2) v0 h) fun v40 =>
kH (deleteD (some ((.struct false [(0, .int), (1, .int)]), (some (.pointer none)))) v39 v40 h) fun _ h =>
K (.bool true) h) (
K (.bool true) h)))
| _ => False
def F.lock_New (E : FE) : Spec := fun args h K => match args with
| [] =>
kP (makeMapD true none h) fun v0 h =>
kv (buildD (.struct [(.map none)] [(0, 1)]) [(0, v0)]) fun v1 =>
kP (newD none v1 h) fun v2 h =>
K v2 h
| _ => False
def F.vault_New (E : FE) : Spec := fun args h K => match args with
| [] =>
kP (makeMapD true none h) fun v0 h =>
cl (F.lock_New E) [] h fun v1 h =>
kP (makeMapD true none h) fun v2 h =>
cl (F.name_New E) [(.slice none 0 0)] h fun v3 h =>
kv (buildD (.struct [(.map none), (.pointer none), (.map none), (.pointer none)] [(0, 1), (1, 1), (2, 1), (3, 1)]) [(0, v0), (1, v1), (2, v2), (3, v3)]) fun v4 =>
kP (newD none v4 h) fun v5 h =>
K v5 h
| _ => False
def F.shard_New (E : FE) : Spec := fun args h K => match args with
| [a0, a1] =>
kv (binD .bad .lss true a1 (.int .i64 1) h) fun v0 =>
kv (gdV v0 false (some a1)) fun v1 =>
kv (gdV v0 false (binD .bad .gtr true v1 (.int .i64 3) h)) fun v2 =>
kv (pickV v0 (.bool true) v2) fun v3 =>
kv (gdV v3 false (some a0)) fun v4 =>
kv (gdV v3 false (binD .bad .lss true v4 (.int .i64 0) h)) fun v5 =>
kv (pickV v3 (.bool true) v5) fun v6 =>
kv (gdV v6 false (some a0)) fun v7 =>
kv (gdV v6 false (some a1)) fun v8 =>
kv (gdV v6 false (binD .bad .geq false v7 v8 h)) fun v9 =>
kv (pickV v6 (.bool true) v9) fun v10 =>
ifV v10 (
K (.pointer none) h) (
cl (F.vault_New E) [] h fun v11 h =>
cl (F.desk_New E) [a1] h fun v12 h =>
kv (buildD (.struct [(.int .i64 0), (.int .i64 0), (.int .i64 0), (.pointer none), (.pointer none)] [(0, 1), (1, 1), (2, 1), (3, 1), (4, 1)]) [(0, a0), (1, a1), (3, v11), (4, v12)]) fun v13 =>
kP (newD none v13 h) fun v14 h =>
K v14 h)
| _ => False
def F.estafetteref12_Client (E : FE) : Spec := fun args h K => match args with
| [a0] =>
kP (newD none a0 h) fun v0 h =>
kv (fieldAddrD (some 0) v0) fun v1 =>
kv (ldD .one v1 h) fun v2 =>
kv (binD .bad .geq true v2 (.int .i64 0) h) fun v3 =>
kv (gdV v3 true (fieldAddrD (some 0) v0)) fun v4 =>
kv (gdV v3 true (ldD .one v4 h)) fun v5 =>
kv (gdV v3 true (binD .bad .leq true v5 (.int .i64 8) h)) fun v6 =>
kv (pickV v3 v6 (.bool false)) fun v7 =>
kv (gdV v7 true (fieldAddrD (some 1) v0)) fun v8 =>
kv (gdV v7 true (ldD .one v8 h)) fun v9 =>
kv (gdV v7 true (binD .bad .geq true v9 (.int .i64 1) h)) fun v10 =>
kv (pickV v7 v10 (.bool false)) fun v11 =>
kv (gdV v11 true (fieldAddrD (some 1) v0)) fun v12 =>
kv (gdV v11 true (ldD .one v12 h)) fun v13 =>
kv (gdV v11 true (binD .bad .leq true v13 (.int .i64 1099511627776) h)) fun v14 =>
kv (pickV v11 v14 (.bool false)) fun v15 =>
K v15 h
| _ => False
def F.slices_Equal_Sint64_int64 (E : FE) : Spec := fun args h K => match args with
| [a0, a1] =>
kv (lenD .slice a0 h) fun v0 =>
kv (lenD .slice a1 h) fun v1 =>
kv (binD .bad .neq false v0 v1 h) fun v2 =>
ifV v2 (
K (.bool false) h) (
kv (lenD .slice a0 h) fun v3 =>
∃ (Inv4 : Nat → List V → AHeap → Prop) (n4 : Nat), Inv4 n4 [(.int .i64 0)] h ∧ ∀ (n4 : Nat) (e4 : Nat → V) (h : AHeap), Inv4 n4 [(e4 13)] h →
kv (binD .bad .lss false (e4 13) v3 h) fun v5 =>
ifV v5 (
kv (indexAddrD (.slice 1) a0 (e4 13)) fun v6 =>
kv (ldD .one v6 h) fun v7 =>
kv (indexAddrD (.slice 1) a1 (e4 13)) fun v8 =>
kv (ldD .one v8 h) fun v9 =>
kv (binD .bad .neq false v7 v9 h) fun v10 =>
ifV v10 (
K (.bool false) h) (
kv (binD .bad .add true (e4 13) (.int .i64 1) h) fun v11 =>
∃ m, m < n4 ∧ Inv4 m [v11] h)) (
K (.bool true) h))
| _ => False
def F.slices_Equal_Sstring_string (E : FE) : Spec := fun args h K => match args with
| [a0, a1] =>
kv (lenD .slice a0 h) fun v0 =>
kv (lenD .slice a1 h) fun v1 =>
kv (binD .bad .neq false v0 v1 h) fun v2 =>
ifV v2 (
K (.bool false) h) (
kv (lenD .slice a0 h) fun v3 =>
∃ (Inv4 : Nat → List V → AHeap → Prop) (n4 : Nat), Inv4 n4 [(.int .i64 0)] h ∧ ∀ (n4 : Nat) (e4 : Nat → V) (h : AHeap), Inv4 n4 [(e4 13)] h →
kv (binD .bad .lss false (e4 13) v3 h) fun v5 =>
ifV v5 (
kv (indexAddrD (.slice 1) a0 (e4 13)) fun v6 =>
kv (ldD .one v6 h) fun v7 =>
kv (indexAddrD (.slice 1) a1 (e4 13)) fun v8 =>
kv (ldD .one v8 h) fun v9 =>
kv (binD .bad .neq false v7 v9 h) fun v10 =>
ifV v10 (
K (.bool false) h) (
kv (binD .bad .add true (e4 13) (.int .i64 1) h) fun v11 =>
∃ m, m < n4 ∧ Inv4 m [v11] h)) (
K (.bool true) h))
| _ => False
def F.rec_Eq (E : FE) : Spec := fun args h K => match args with
| [a0, a1] =>
kP (newD none a0 h) fun v0 h =>
kP (newD none a1 h) fun v1 h =>
kv (fieldAddrD (some 0) v0) fun v2 =>
kv (ldD .one v2 h) fun v3 =>
kv (fieldAddrD (some 0) v1) fun v4 =>
kv (ldD .one v4 h) fun v5 =>
kv (binD .bad .eql false v3 v5 h) fun v6 =>
kv (gdV v6 true (fieldAddrD (some 1) v0)) fun v7 =>
kv (gdV v6 true (ldD .one v7 h)) fun v8 =>
kv (gdV v6 true (fieldAddrD (some 1) v1)) fun v9 =>
kv (gdV v6 true (ldD .one v9 h)) fun v10 =>
gdC v6 true h (fun K11 => cl (F.slices_Equal_Sint64_int64 E) [v8, v10] h fun v h => K11 v h) fun v12 h =>
kv (pickV v6 v12 (.bool false)) fun v13 =>
kv (gdV v13 true (fieldAddrD (some 2) v0)) fun v14 =>
kv (gdV v13 true (ldD .one v14 h)) fun v15 =>
kv (gdV v13 true (fieldAddrD (some 2) v1)) fun v16 =>
kv (gdV v13 true (ldD .one v16 h)) fun v17 =>
gdC v13 true h (fun K18 => cl (F.slices_Equal_Sstring_string E) [v15, v17] h fun v h => K18 v h) fun v19 h =>
kv (pickV v13 v19 (.bool false)) fun v20 =>
K v20 h
| _ => False
def F.op_Get (E : FE) : Spec := fun args h K => match args with
| [a0] =>
kP (newD none a0 h) fun v0 h =>
kP (newD none (.agg #[(.int .i64 0), (.int .i64 0)]) h) fun v1 h =>
kv (fieldAddrD (some 2) v0) fun v2 =>
kv (ldD .one v2 h) fun v3 =>
kv (lenD .slice v3 h) fun v4 =>
kv (binD .bad .quo true v4 (.int .i64 3) h) fun v5 =>
kv (fieldAddrD (some 1) v0) fun v6 =>
kv (ldD .one v6 h) fun v7 =>
kv (lenD .slice v7 h) fun v8 =>
kv (binD .bad .mul true (.int .i64 2) v5 h) fun v9 =>
kv (binD .bad .add true (.int .i64 2) v9 h) fun v10 =>
kv (binD .bad .neq false v8 v10 h) fun v11 =>
ifV v11 (
kv (buildD (.struct [(.int .i64 0), (.int .i64 0)] [(0, 1), (1, 1)]) []) fun v12 =>
kH (stD (some 2) v1 v12 h) fun _ h =>
kv (ldD (.agg 2) v1 h) fun r13 =>
K (.tuple #[r13, (.slice none 0 0), (.bool false)]) h) (
kv (fieldAddrD (some 1) v0) fun v14 =>
kv (ldD .one v14 h) fun v15 =>
kv (indexAddrD (.slice 1) v15 (.int .i64 0)) fun v16 =>
kv (ldD .one v16 h) fun v17 =>
kv (fieldAddrD (some 1) v0) fun v18 =>
kv (ldD .one v18 h) fun v19 =>
kv (indexAddrD (.slice 1) v19 (.int .i64 1)) fun v20 =>
kv (ldD .one v20 h) fun v21 =>
kv (buildD (.struct [(.int .i64 0), (.int .i64 0)] [(0, 1), (1, 1)]) [(0, v17), (1, v21)]) fun v22 =>
kP (newD none (.agg #[(.int .i64 0), (.int .i64 0)]) h) fun v23 h =>
ldD .one v14 h = some v15 ∧
ldD .one v16 h = some v17 ∧
ldD .one v18 h = some v19 ∧
ldD .one v20 h = some v21 ∧
kH (stD (some 2) v23 v22 h) fun _ h =>
∃ (Inv24 : Nat → List V → AHeap → Prop) (n24 : Nat), Inv24 n24 [(.slice none 0 0), (.int .i64 0)] h ∧ ∀ (n24 : Nat) (e24 : Nat → V) (h : AHeap), Inv24 n24 [(e24 7), (e24 33)] h →
kv (binD .bad .lss false (e24 33) v5 h) fun v25 =>
ifV v25 (
kv (fieldAddrD (some 1) v0) fun v26 =>
kv (ldD .one v26 h) fun v27 =>
kv (binD .bad .mul true (.int .i64 2) (e24 33) h) fun v28 =>
kv (binD .bad .add true (.int .i64 2) v28 h) fun v29 =>
kv (indexAddrD (.slice 1) v27 v29) fun v30 =>
kv (ldD .one v30 h) fun v31 =>
kv (fieldAddrD (some 2) v0) fun v32 =>
kv (ldD .one v32 h) fun v33 =>
kv (binD .bad .mul true (.int .i64 3) (e24 33) h) fun v34 =>
kv (indexAddrD (.slice 1) v33 v34) fun v35 =>
kv (ldD .one v35 h) fun v36 =>
kv (fieldAddrD (some 2) v0) fun v37 =>
kv (ldD .one v37 h) fun v38 =>
kv (binD .bad .mul true (.int .i64 3) (e24 33) h) fun v39 =>
kv (binD .bad .add true v39 (.int .i64 1) h) fun v40 =>
kv (indexAddrD (.slice 1) v38 v40) fun v41 =>
kv (ldD .one v41 h) fun v42 =>
kv (fieldAddrD (some 2) v0) fun v43 =>
kv (ldD .one v43 h) fun v44 =>
kv (binD .bad .mul true (.int .i64 3) (e24 33) h) fun v45 =>
kv (binD .bad .add true v45 (.int .i64 2) h) fun v46 =>
kv (indexAddrD (.slice 1) v44 v46) fun v47 =>
kv (ldD .one v47 h) fun v48 =>
kv (fieldAddrD (some 1) v0) fun v49 =>
kv (ldD .one v49 h) fun v50 =>
kv (binD .bad .mul true (.int .i64 2) (e24 33) h) fun v51 =>
kv (binD .bad .add true (.int .i64 3) v51 h) fun v52 =>
kv (indexAddrD (.slice 1) v50 v52) fun v53 =>
kv (ldD .one v53 h) fun v54 =>
kv (buildD (.struct [(.int .i64 0), (.string ⟨#[]⟩), (.string ⟨#[]⟩), (.string ⟨#[]⟩), (.int .i64 0)] [(0, 1), (1, 1), (2, 1), (3, 1), (4, 1)]) [(0, v31), (1, v36), (2, v42), (3, v48), (4, v54)]) fun v55 =>
kP (buildSliceD (some (5, [(.int .i64 0), (.string ⟨#[]⟩), (.string ⟨#[]⟩), (.string ⟨#[]⟩), (.int .i64 0)])) 1 [(0, v55)] h) fun v56 h =>
kP (appendD (some (5, 64, [(.int .i64 0), (.string ⟨#[]⟩), (.string ⟨#[]⟩), (.string ⟨#[]⟩), (.int .i64 0)])) (e24 7) v56 h) fun v57 h =>
kv (binD .bad .add true (e24 33) (.int .i64 1) h) fun v58 =>
∃ m, m < n24 ∧ Inv24 m [v57, v58] h) (
kv (ldD (.agg 2) v23 h) fun v59 =>
kv (fieldAddrD (some 0) v0) fun v60 =>
kv (ldD .one v60 h) fun v61 =>
cl (F.op_Put E) [v59, (e24 7), v61] h fun v62 h =>
kv (aExtract v62 0) fun v63 =>
kv (aExtract v62 1) fun v64 =>
kP (newD none (.agg #[(.int .i64 0), (.slice none 0 0), (.slice none 0 0)]) h) fun v65 h =>
kH (stD (some 3) v65 v63 h) fun _ h =>
kv (aUn .not v64) fun v66 =>
kv (gdV v66 false (ldD (.agg 3) v65 h)) fun v67 =>
kv (gdV v66 false (ldD (.agg 3) v0 h)) fun v68 =>
gdC v66 false h (fun K69 => cl (F.rec_Eq E) [v67, v68] h fun v h => K69 v h) fun v70 h =>
kv (gdV v66 false (aUn .not v70)) fun v71 =>
kv (pickV v66 (.bool true) v71) fun v72 =>
ifV v72 (
kv (buildD (.struct [(.int .i64 0), (.int .i64 0)] [(0, 1), (1, 1)]) []) fun v73 =>
kH (stD (some 2) v1 v73 h) fun _ h =>
kv (ldD (.agg 2) v1 h) fun r74 =>
K (.tuple #[r74, (.slice none 0 0), (.bool false)]) h) (
kv (ldD (.agg 2) v23 h) fun v75 =>
kH (stD (some 2) v1 v75 h) fun _ h =>
kv (ldD (.agg 2) v1 h) fun r76 =>
K (.tuple #[r76, (e24 7), (.bool true)]) h)))
| _ => False
def F.name_Coord (E : FE) : Spec := fun args h K => match args with
| [a0, a1] =>
kv (binD .bad .lss true a1 (.int .i64 1) h) fun v0 =>
ifV v0 (
K (.int .i64 0) h) (
kv (binD .bad .rem false a0 a1 h) fun v1 =>
kv (binD .bad .lss true v1 (.int .i64 0) h) fun v2 =>
ifV v2 (
kv (binD .bad .add false v1 a1 h) fun v3 =>
K v3 h) (
K v1 h))
| _ => False
def F.shard_Shard_mine (E : FE) : Spec := fun args h K => match args with
| [a0, a1] =>
kP (newD none a1 h) fun v0 h =>
kv (fieldAddrD (some 0) v0) fun v1 =>
kv (ldD .one v1 h) fun v2 =>
kv (aNil a0) fun v3 =>
kv (fieldAddrD (some 1) v3) fun v4 =>
kv (ldD .one v4 h) fun v5 =>
kv (aNil a0) fun v6 =>
kv (fieldAddrD (some 0) v6) fun v7 =>
kv (ldD .one v7 h) fun v8 =>
cl (F.name_Coord E) [v2, v5] h fun v9 h =>
ldD .one v7 h = some v8 ∧
kv (binD .bad .eql false v9 v8 h) fun v10 =>
K v10 h
| _ => False
def F.slices_IndexFunc_Sapi_Word_api_Word (E : FE) : Spec := fun args h K => match args with
| [a0, a1] =>
kv (lenD .slice a0 h) fun v0 =>
∃ (Inv1 : Nat → List V → AHeap → Prop) (n1 : Nat), Inv1 n1 [(.int .i64 0)] h ∧ ∀ (n1 : Nat) (e1 : Nat → V) (h : AHeap), Inv1 n1 [(e1 8)] h →
kv (binD .bad .lss false (e1 8) v0 h) fun v2 =>
ifV v2 (
kv (indexAddrD (.slice 4) a0 (e1 8)) fun v3 =>
kv (ldD (.agg 4) v3 h) fun v4 =>
aCall E.I a1 [v4] h fun v5 h =>
ifV v5 (
K (e1 8) h) (
kv (binD .bad .add true (e1 8) (.int .i64 1) h) fun v6 =>
∃ m, m < n1 ∧ Inv1 m [v6] h)) (
K (.int .i64 (-1)) h)
| _ => False
def F.slices_DeleteFunc_Sapi_Word_api_Word (E : FE) : Spec := fun args h K => match args with
| [a0, a1] =>
cl (F.slices_IndexFunc_Sapi_Word_api_Word E) [a0, a1] h fun v0 h =>
kv (binD .bad .eql true v0 (.int .i64 (-1)) h) fun v1 =>
ifV v1 (
K a0 h) (
kv (binD .bad .add true v0 (.int .i64 1) h) fun v2 =>
∃ (Inv3 : Nat → List V → AHeap → Prop) (n3 : Nat), Inv3 n3 [v0, v2] h ∧ ∀ (n3 : Nat) (e3 : Nat → V) (h : AHeap), Inv3 n3 [(e3 5), (e3 6)] h →
kv (lenD .slice a0 h) fun v4 =>
kv (binD .bad .lss false (e3 6) v4 h) fun v5 =>
ifV v5 (
kv (indexAddrD (.slice 4) a0 (e3 6)) fun v6 =>
kv (ldD (.agg 4) v6 h) fun v7 =>
kP (newD none (.agg #[(.int .i64 0), (.int .i64 0), (.slice none 0 0), (.slice none 0 0)]) h) fun v8 h =>
kH (stD (some 4) v8 v7 h) fun _ h =>
kv (ldD (.agg 4) v8 h) fun v9 =>
aCall (inI [(274, F.slices_IndexFunc_Sapi_Word_api_Word E)] E.I) a1 [v9] h fun v10 h =>
kv (aUn .not v10) fun v11 =>
ifV v11 (
kv (ldD (.agg 4) v8 h) fun v12 =>
kv (indexAddrD (.slice 4) a0 (e3 5)) fun v13 =>
kH (stD (some 4) v13 v12 h) fun _ h =>
kv (binD .bad .add true (e3 5) (.int .i64 1) h) fun v14 =>
kv (binD .bad .add true (e3 6) (.int .i64 1) h) fun v15 =>
∃ m, m < n3 ∧ Inv3 m [v14, v15] h) (
kv (binD .bad .add true (e3 6) (.int .i64 1) h) fun v16 =>
∃ m, m < n3 ∧ Inv3 m [(e3 5), v16] h)) (
kv (sliceD (.slice 4) a0 (some (e3 5)) none none h) fun v17 =>
kH (clearD (some (some [(.int .i64 0), (.int .i64 0), (.slice none 0 0), (.slice none 0 0)])) v17 h) fun _ h =>
kv (sliceD (.slice 4) a0 none (some (e3 5)) none h) fun v18 =>
K v18 h))
| _ => False
def F.shard_Shard_of (E : FE) : Spec := fun args h K => match args with
| [a0, a1] =>
kP (newD none a1 h) fun v0 h =>
kv (aNil a0) fun v1 =>
kv (fieldAddrD (some 4) v1) fun v2 =>
kv (ldD .one v2 h) fun v3 =>
cl (F.desk_Desk_Wants E) [v3] h fun v4 h =>
cl (F.slices_DeleteFunc_Sapi_Word_api_Word E) [v4, (.func (.func (E.k 18)) #[] #[v0])] h fun v5 h =>
K v5 h
| _ => False
def F.shard_Shard_begins (E : FE) : Spec := fun args h K => match args with
| [a0, a1] =>
kP (newD none a1 h) fun v0 h =>
kv (ldD (.agg 3) v0 h) fun v1 =>
cl (F.op_Get E) [v1] h fun v2 h =>
kv (aExtract v2 0) fun v3 =>
kv (aExtract v2 1) fun v4 =>
kv (aExtract v2 2) fun v5 =>
kP (newD none (.agg #[(.int .i64 0), (.int .i64 0)]) h) fun v6 h =>
kH (stD (some 2) v6 v3 h) fun _ h =>
kv (aUn .not v5) fun v7 =>
kv (gdV v7 false (some a0)) fun v8 =>
kv (gdV v7 false (ldD (.agg 2) v6 h)) fun v9 =>
gdC v7 false h (fun K10 => cl (F.shard_Shard_mine E) [v8, v9] h fun v h => K10 v h) fun v11 h =>
kv (gdV v7 false (aUn .not v11)) fun v12 =>
kv (pickV v7 (.bool true) v12) fun v13 =>
kv (gdV v13 false (some a0)) fun v14 =>
kv (gdV v13 false (aNil v14)) fun v15 =>
kv (gdV v13 false (fieldAddrD (some 4) v15)) fun v16 =>
kv (gdV v13 false (ldD .one v16 h)) fun v17 =>
kv (gdV v13 false (ldD (.agg 2) v6 h)) fun v18 =>
kv (gdV v13 false (some v4)) fun v19 =>
gdC v13 false h (fun K20 => cl (F.desk_Desk_Begin E) [v17, v18, v19] h fun v h => K20 v h) fun v21 h =>
kv (gdV v13 false (aUn .not v21)) fun v22 =>
kv (pickV v13 (.bool true) v22) fun v23 =>
ifV v23 (
K (.slice none 0 0) h) (
kv (ldD (.agg 2) v6 h) fun v24 =>
cl (F.shard_Shard_of E) [a0, v24] h fun v25 h =>
K v25 h)
| _ => False
def F.name_Ids_Has (E : FE) : Spec := fun args h K => match args with
| [a0, a1] =>
kP (newD none a1 h) fun v0 h =>
kv (binD (.ptr true) .neq true a0 (.pointer none) h) fun v1 =>
kv (gdV v1 true (some a0)) fun v2 =>
kv (gdV v1 true (aNil v2)) fun v3 =>
kv (gdV v1 true (fieldAddrD (some 0) v3)) fun v4 =>
kv (gdV v1 true (ldD .one v4 h)) fun v5 =>
kv (gdV v1 true (ldD (.agg 2) v0 h)) fun v6 =>
kv (gdV v1 true (lookupD (some ((.struct false [(0, .int), (1, .int)]), (some (.bool false)))) v5 v6 false h)) fun v7 =>
kv (pickV v1 v7 (.bool false)) fun v8 =>
K v8 h
| _ => False
def F.vault_Vault_Over (E : FE) : Spec := fun args h K => match args with
| [a0, a1] =>
kP (newD none a1 h) fun v0 h =>
kv (binD (.ptr true) .neq true a0 (.pointer none) h) fun v1 =>
kv (gdV v1 true (some a0)) fun v2 =>
kv (gdV v1 true (aNil v2)) fun v3 =>
kv (gdV v1 true (fieldAddrD (some 3) v3)) fun v4 =>
kv (gdV v1 true (ldD .one v4 h)) fun v5 =>
kv (gdV v1 true (ldD (.agg 2) v0 h)) fun v6 =>
gdC v1 true h (fun K7 => cl (F.name_Ids_Has E) [v5, v6] h fun v h => K7 v h) fun v8 h =>
kv (pickV v1 v8 (.bool false)) fun v9 =>
K v9 h
| _ => False
def F.op_Kind (E : FE) : Spec := fun args h K => match args with
| [a0] =>
kv (binD .bad .geq true a0 (.int .i64 3) h) fun v0 =>
kv (gdV v0 true (some a0)) fun v1 =>
kv (gdV v0 true (binD .bad .leq true v1 (.int .i64 5) h)) fun v2 =>
kv (pickV v0 v2 (.bool false)) fun v3 =>
ifV v3 (
K (.int .i64 1) h) (
kv (binD .bad .geq true a0 (.int .i64 6) h) fun v4 =>
kv (gdV v4 true (some a0)) fun v5 =>
kv (gdV v4 true (binD .bad .leq true v5 (.int .i64 9) h)) fun v6 =>
kv (pickV v4 v6 (.bool false)) fun v7 =>
ifV v7 (
K (.int .i64 2) h) (
kv (binD .bad .geq true a0 (.int .i64 10) h) fun v8 =>
kv (gdV v8 true (some a0)) fun v9 =>
kv (gdV v8 true (binD .bad .leq true v9 (.int .i64 12) h)) fun v10 =>
kv (pickV v8 v10 (.bool false)) fun v11 =>
ifV v11 (
K (.int .i64 3) h) (
K (.int .i64 0) h)))
| _ => False
def F.slices_insertionSortCmpFunc_lock_Key (E : FE) : Spec := fun args h K => match args with
| [a0, a1, a2, a3] =>
kv (binD .bad .add true a1 (.int .i64 1) h) fun v0 =>
∃ (Inv1 : Nat → List V → AHeap → Prop) (n1 : Nat), Inv1 n1 [v0] h ∧ ∀ (n1 : Nat) (e1 : Nat → V) (h : AHeap), Inv1 n1 [(e1 8)] h →
kv (binD .bad .lss false (e1 8) a2 h) fun v2 =>
ifV v2 (
∃ (Inv3 : Nat → List V → AHeap → Prop) (n3 : Nat), Inv3 n3 [(e1 8)] h ∧ ∀ (n3 : Nat) (e3 : Nat → V) (h : AHeap), Inv3 n3 [(e3 9)] h →
kv (binD .bad .gtr false (e3 9) a1 h) fun v4 =>
kv (gdV v4 true (some a3)) fun v5 =>
kv (gdV v4 true (some a0)) fun v6 =>
kv (gdV v4 true (some (e3 9))) fun v7 =>
kv (gdV v4 true (indexAddrD (.slice 3) v6 v7)) fun v8 =>
kv (gdV v4 true (ldD (.agg 3) v8 h)) fun v9 =>
kv (gdV v4 true (some a0)) fun v10 =>
kv (gdV v4 true (some (e3 9))) fun v11 =>
kv (gdV v4 true (binD .bad .sub true v11 (.int .i64 1) h)) fun v12 =>
kv (gdV v4 true (indexAddrD (.slice 3) v10 v12)) fun v13 =>
kv (gdV v4 true (ldD (.agg 3) v13 h)) fun v14 =>
gdC v4 true h (fun K15 => aCall E.I v5 [v9, v14] h fun v h => K15 v h) fun v16 h =>
kv (gdV v4 true (binD .bad .lss true v16 (.int .i64 0) h)) fun v17 =>
kv (pickV v4 v17 (.bool false)) fun v18 =>
ifV v18 (
kv (binD .bad .sub true (e3 9) (.int .i64 1) h) fun v19 =>
kv (binD .bad .sub true (e3 9) (.int .i64 1) h) fun v20 =>
kv (indexAddrD (.slice 3) a0 v20) fun v21 =>
kv (ldD (.agg 3) v21 h) fun v22 =>
kv (indexAddrD (.slice 3) a0 (e3 9)) fun v23 =>
kv (ldD (.agg 3) v23 h) fun v24 =>
kv (indexAddrD (.slice 3) a0 (e3 9)) fun v25 =>
kH (stD (some 3) v25 v22 h) fun _ h =>
kv (indexAddrD (.slice 3) a0 v19) fun v26 =>
kH (stD (some 3) v26 v24 h) fun _ h =>
kv (binD .bad .sub true (e3 9) (.int .i64 1) h) fun v27 =>
∃ m, m < n3 ∧ Inv3 m [v27] h) (
kv (binD .bad .add true (e1 8) (.int .i64 1) h) fun v28 =>
∃ m, m < n1 ∧ Inv1 m [v28] h)) (
K (.tuple #[]) h)
| _ => False
def Fr.slices_pdqsortCmpFunc_lock_Key : Nat → FE → Spec
| 0, _ => fun _ _ _ => False
| fuel + 1, E => fun args h K => match args with
| [a0, a1, a2, a3, a4] =>
∃ (Inv0 : Nat → List V → AHeap → Prop) (n0 : Nat), Inv0 n0 [a1, a2, a3, (.bool true), (.bool true)] h ∧ ∀ (n0 : Nat) (e0 : Nat → V) (h : AHeap), Inv0 n0 [(e0 1), (e0 2), (e0 3), (e0 10), (e0 11)] h →
kv (binD .bad .sub false (e0 2) (e0 1) h) fun v1 =>
kv (binD .bad .leq true v1 (.int .i64 12) h) fun v2 =>
ifV v2 (
cl (F.slices_insertionSortCmpFunc_lock_Key E) [a0, (e0 1), (e0 2), a4] h fun v3 h =>
K (.tuple #[]) h) (
kv (binD .bad .eql true (e0 3) (.int .i64 0) h) fun v4 =>
ifV v4 (
False) (
kv (aUn .not (e0 10)) fun v6 =>
∃ K7 : List V → AHeap → Prop, (
ifV v6 (
False) (
K7 [(e0 3)] h)) ∧ ∀ (e7 : Nat → V) (h : AHeap), K7 [(e7 3)] h →
False))
| _ => False
def F.slices_pdqsortCmpFunc_lock_Key (E : FE) : Spec := fun args h K => ∃ n, Fr.slices_pdqsortCmpFunc_lock_Key n E args h K
def F.slices_SortFunc_Slock_Key_lock_Key (E : FE) : Spec := fun args h K => match args with
| [a0, a1] =>
kv (lenD .slice a0 h) fun v0 =>
kv ((convD (.int .u64) v0 h).map (·.1)) fun v1 =>
cl (F.math_bits_Len E) [v1] h fun v2 h =>
cl (F.slices_pdqsortCmpFunc_lock_Key E) [a0, (.int .i64 0), v0, v2, a1] h fun v3 h =>
K (.tuple #[]) h
| _ => False
def F.slices_Compact_Slock_Key_lock_Key (E : FE) : Spec := fun args h K => match args with
| [a0] =>
kv (lenD .slice a0 h) fun v0 =>
kv (binD .bad .lss true v0 (.int .i64 2) h) fun v1 =>
ifV v1 (
K a0 h) (
∃ (Inv2 : Nat → List V → AHeap → Prop) (n2 : Nat), Inv2 n2 [(.int .i64 1)] h ∧ ∀ (n2 : Nat) (e2 : Nat → V) (h : AHeap), Inv2 n2 [(e2 3)] h →
kv (lenD .slice a0 h) fun v3 =>
kv (binD .bad .lss false (e2 3) v3 h) fun v4 =>
ifV v4 (
kv (indexAddrD (.slice 3) a0 (e2 3)) fun v5 =>
kv (ldD (.agg 3) v5 h) fun v6 =>
kv (binD .bad .sub true (e2 3) (.int .i64 1) h) fun v7 =>
kv (indexAddrD (.slice 3) a0 v7) fun v8 =>
kv (ldD (.agg 3) v8 h) fun v9 =>
kv (binD (.struct [(0, .string), (1, .string), (2, .bool)]) .eql false v6 v9 h) fun v10 =>
ifV v10 (
kv (sliceD (.slice 3) a0 (some (e2 3)) none none h) fun v11 =>
∃ (Inv12 : Nat → List V → AHeap → Prop) (n12 : Nat), Inv12 n12 [(e2 3), (.int .i64 1)] h ∧ ∀ (n12 : Nat) (e12 : Nat → V) (h : AHeap), Inv12 n12 [(e12 3), (e12 5)] h →
kv (lenD .slice v11 h) fun v13 =>
kv (binD .bad .lss false (e12 5) v13 h) fun v14 =>
ifV v14 (
kv (indexAddrD (.slice 3) v11 (e12 5)) fun v15 =>
kv (ldD (.agg 3) v15 h) fun v16 =>
kv (binD .bad .sub true (e12 5) (.int .i64 1) h) fun v17 =>
kv (indexAddrD (.slice 3) v11 v17) fun v18 =>
kv (ldD (.agg 3) v18 h) fun v19 =>
kv (binD (.struct [(0, .string), (1, .string), (2, .bool)]) .neq false v16 v19 h) fun v20 =>
ifV v20 (
kv (indexAddrD (.slice 3) v11 (e12 5)) fun v21 =>
kv (ldD (.agg 3) v21 h) fun v22 =>
kv (indexAddrD (.slice 3) a0 (e12 3)) fun v23 =>
kH (stD (some 3) v23 v22 h) fun _ h =>
kv (binD .bad .add true (e12 3) (.int .i64 1) h) fun v24 =>
kv (binD .bad .add true (e12 5) (.int .i64 1) h) fun v25 =>
∃ m, m < n12 ∧ Inv12 m [v24, v25] h) (
kv (binD .bad .add true (e12 5) (.int .i64 1) h) fun v26 =>
∃ m, m < n12 ∧ Inv12 m [(e12 3), v26] h)) (
kv (sliceD (.slice 3) a0 (some (e12 3)) none none h) fun v27 =>
kH (clearD (some (some [(.string ⟨#[]⟩), (.string ⟨#[]⟩), (.bool false)])) v27 h) fun _ h =>
kv (sliceD (.slice 3) a0 none (some (e12 3)) none h) fun v28 =>
K v28 h)) (
kv (binD .bad .add true (e2 3) (.int .i64 1) h) fun v29 =>
∃ m, m < n2 ∧ Inv2 m [v29] h)) (
K a0 h))
| _ => False
def F.lock_sorted (E : FE) : Spec := fun args h K => match args with
| [a0] =>
cl (F.slices_SortFunc_Slock_Key_lock_Key E) [a0, (.func (.func (E.k 9)) #[] #[])] h fun v0 h =>
cl (F.slices_Compact_Slock_Key_lock_Key E) [a0] h fun v1 h =>
K v1 h
| _ => False
def F.lock_Of (E : FE) : Spec := fun args h K => match args with
| [a0] =>
kv (lenD .slice a0 h) fun v0 =>
∃ (Inv1 : Nat → List V → AHeap → Prop) (n1 : Nat), Inv1 n1 [(.slice none 0 0), (.int .i64 0)] h ∧ ∀ (n1 : Nat) (e1 : Nat → V) (h : AHeap), Inv1 n1 [(e1 3), (e1 8)] h →
kv (binD .bad .lss false (e1 8) v0 h) fun v2 =>
ifV v2 (
kv (indexAddrD (.slice 5) a0 (e1 8)) fun v3 =>
kv (ldD (.agg 5) v3 h) fun v4 =>
kP (newD none (.agg #[(.int .i64 0), (.string ⟨#[]⟩), (.string ⟨#[]⟩), (.string ⟨#[]⟩), (.int .i64 0)]) h) fun v5 h =>
kH (stD (some 5) v5 v4 h) fun _ h =>
kv (fieldAddrD (some 0) v5) fun v6 =>
kv (ldD .one v6 h) fun v7 =>
cl (F.op_Kind E) [v7] h fun v8 h =>
kv (binD .bad .eql true v8 (.int .i64 1) h) fun v9 =>
ifV v9 (
kv (fieldAddrD (some 1) v5) fun v10 =>
kv (ldD .one v10 h) fun v11 =>
kv (fieldAddrD (some 2) v5) fun v12 =>
kv (ldD .one v12 h) fun v13 =>
kv (buildD (.struct [(.string ⟨#[]⟩), (.string ⟨#[]⟩), (.bool false)] [(0, 1), (1, 1), (2, 1)]) [(0, v11), (1, v13)]) fun v14 =>
kP (buildSliceD (some (3, [(.string ⟨#[]⟩), (.string ⟨#[]⟩), (.bool false)])) 1 [(0, v14)] h) fun v15 h =>
kP (appendD (some (3, 40, [(.string ⟨#[]⟩), (.string ⟨#[]⟩), (.bool false)])) (e1 3) v15 h) fun v16 h =>
kv (binD .bad .add true (e1 8) (.int .i64 1) h) fun v17 =>
∃ m, m < n1 ∧ Inv1 m [v16, v17] h) (
kv (fieldAddrD (some 1) v5) fun v18 =>
kv (ldD .one v18 h) fun v19 =>
kv (buildD (.struct [(.string ⟨#[]⟩), (.string ⟨#[]⟩), (.bool false)] [(0, 1), (1, 1), (2, 1)]) [(0, v19), (2, (.bool true))]) fun v20 =>
kP (buildSliceD (some (3, [(.string ⟨#[]⟩), (.string ⟨#[]⟩), (.bool false)])) 1 [(0, v20)] h) fun v21 h =>
kP (appendD (some (3, 40, [(.string ⟨#[]⟩), (.string ⟨#[]⟩), (.bool false)])) (e1 3) v21 h) fun v22 h =>
kv (binD .bad .add true (e1 8) (.int .i64 1) h) fun v23 =>
∃ m, m < n1 ∧ Inv1 m [v22, v23] h)) (
cl (F.lock_sorted E) [(e1 3)] h fun v24 h =>
K v24 h)
| _ => False
def F.slices_IndexFunc_Slock_Key_lock_Key (E : FE) : Spec := fun args h K => match args with
| [a0, a1] =>
kv (lenD .slice a0 h) fun v0 =>
∃ (Inv1 : Nat → List V → AHeap → Prop) (n1 : Nat), Inv1 n1 [(.int .i64 0)] h ∧ ∀ (n1 : Nat) (e1 : Nat → V) (h : AHeap), Inv1 n1 [(e1 8)] h →
kv (binD .bad .lss false (e1 8) v0 h) fun v2 =>
ifV v2 (
kv (indexAddrD (.slice 3) a0 (e1 8)) fun v3 =>
kv (ldD (.agg 3) v3 h) fun v4 =>
aCall E.I a1 [v4] h fun v5 h =>
ifV v5 (
K (e1 8) h) (
kv (binD .bad .add true (e1 8) (.int .i64 1) h) fun v6 =>
∃ m, m < n1 ∧ Inv1 m [v6] h)) (
K (.int .i64 (-1)) h)
| _ => False
def F.slices_ContainsFunc_Slock_Key_lock_Key (E : FE) : Spec := fun args h K => match args with
| [a0, a1] =>
cl (F.slices_IndexFunc_Slock_Key_lock_Key E) [a0, a1] h fun v0 h =>
kv (binD .bad .geq true v0 (.int .i64 0) h) fun v1 =>
K v1 h
| _ => False
def F.lock_Locks_Take (E : FE) : Spec := fun args h K => match args with
| [a0, a1, a2] =>
kP (newD none a1 h) fun v0 h =>
kv (binD (.ptr true) .eql true a0 (.pointer none) h) fun v1 =>
ifV v1 (
K (.bool false) h) (
kv (aNil a0) fun v2 =>
kv (fieldAddrD (some 0) v2) fun v3 =>
kv (ldD .one v3 h) fun v4 =>
kP (rangeD .map v4 h) fun v5 h =>
∃ (Inv6 : Nat → List V → AHeap → Prop) (n6 : Nat), Inv6 n6 [] h ∧ ∀ (n6 : Nat) (e6 : Nat → V) (h : AHeap), Inv6 n6 [] h →
aNext v5 false h fun v7 h =>
kv (aExtract v7 0) fun v8 =>
ifV v8 (
kV (aEntry v5 h) h fun v9 h =>
kv (aExtract v9 0) fun v10 =>
kv (aExtract v9 1) fun v11 =>
kP (newD none (.agg #[(.string ⟨#[]⟩), (.string ⟨#[]⟩), (.bool false)]) h) fun v12 h =>
kP (newD none (.agg #[(.int .i64 0), (.int .i64 0)]) h) fun v13 h =>
kH (stD (some 3) v12 v10 h) fun _ h =>
kH (stD (some 2) v13 v11 h) fun _ h =>
kv (ldD (.agg 2) v13 h) fun v14 =>
kv (ldD (.agg 2) v0 h) fun v15 =>
kv (binD (.struct [(0, .int), (1, .int)]) .neq false v14 v15 h) fun v16 =>
kv (gdV v16 true (some a2)) fun v17 =>
kv (gdV v16 true (some (.func (.func (E.k 8)) #[] #[v12]))) fun v18 =>
gdC v16 true h (fun K19 => cl (F.slices_ContainsFunc_Slock_Key_lock_Key E) [v17, v18] h fun v h => K19 v h) fun v20 h =>
kv (pickV v16 v20 (.bool false)) fun v21 =>
ifV v21 (
K (.bool false) h) (
∃ m, m < n6 ∧ Inv6 m [] h)) (
kv (lenD .slice a2 h) fun v22 =>
∃ (Inv23 : Nat → List V → AHeap → Prop) (n23 : Nat), Inv23 n23 [(.int .i64 0)] h ∧ ∀ (n23 : Nat) (e23 : Nat → V) (h : AHeap), Inv23 n23 [(e23 33)] h →
kv (binD .bad .lss false (e23 33) v22 h) fun v24 =>
ifV v24 (
kv (indexAddrD (.slice 3) a2 (e23 33)) fun v25 =>
kv (ldD (.agg 3) v25 h) fun v26 =>
kP (newD none (.agg #[(.string ⟨#[]⟩), (.string ⟨#[]⟩), (.bool false)]) h) fun v27 h =>
kH (stD (some 3) v27 v26 h) fun _ h =>
kv (aNil a0) fun v28 =>
kv (fieldAddrD (some 0) v28) fun v29 =>
kv (ldD .one v29 h) fun v30 =>
kv (ldD (.agg 3) v27 h) fun v31 =>
kv (ldD (.agg 2) v0 h) fun v32 =>
kH (mapUpdateD (some ((.struct false [(0, .string), (1, .string), (2, .bool)]), (some (.agg #[(.int .i64 0), (.int .i64 0)])))) v30 v31 v32 h) fun _ h =>
kv (binD .bad .add true (e23 33) (.int .i64 1) h) fun v33 =>
∃ m, m < n23 ∧ Inv23 m [v33] h) (
K (.bool true) h)))
| _ => False
def F.maps_Clone_map_string_string_string_string (E : FE) : Spec := fun args h K => match args with
| [a0] =>
kv (binD .map .eql true a0 (.map none) h) fun v0 =>
ifV v0 (
K (.map none) h) (
iface 319 a0 h fun v1 h =>
cl (F.maps_clone E) [v1] h fun v2 h =>
kv (assertD true v2 319 false) fun v3 =>
K v3 h)
| _ => False
def F.table_Table_Clone (E : FE) : Spec := fun args h K => match args with
| [a0] =>
kv (binD (.ptr true) .eql true a0 (.pointer none) h) fun v0 =>
ifV v0 (
K (.pointer none) h) (
kv (aNil a0) fun v1 =>
kv (fieldAddrD (some 0) v1) fun v2 =>
kv (ldD .one v2 h) fun v3 =>
cl (F.maps_Clone_map_string_string_string_string E) [v3] h fun v4 h =>
kv (buildD (.struct [(.map none)] [(0, 1)]) [(0, v4)]) fun v5 =>
kP (newD none v5 h) fun v6 h =>
K v6 h)
| _ => False
def F.slices_Clone_Sapi_Msg_api_Msg (E : FE) : Spec := fun args h K => match args with
| [a0] =>
kv (binD .slice .eql true a0 (.slice none 0 0) h) fun v0 =>
ifV v0 (
K (.slice none 0 0) h) (
kP (buildSliceD (some (4, [(.int .i64 0), (.string ⟨#[]⟩), (.int .i64 0), (.int .i64 0)])) 0 [] h) fun v1 h =>
kP (appendD (some (4, 40, [(.int .i64 0), (.string ⟨#[]⟩), (.int .i64 0), (.int .i64 0)])) v1 a0 h) fun v2 h =>
K v2 h)
| _ => False
def F.queue_Queue_Clone (E : FE) : Spec := fun args h K => match args with
| [a0] =>
kv (binD (.ptr true) .eql true a0 (.pointer none) h) fun v0 =>
ifV v0 (
K (.pointer none) h) (
kv (aNil a0) fun v1 =>
kv (fieldAddrD (some 0) v1) fun v2 =>
kv (ldD .one v2 h) fun v3 =>
kv (aNil a0) fun v4 =>
kv (fieldAddrD (some 1) v4) fun v5 =>
kv (ldD .one v5 h) fun v6 =>
kv (aNil a0) fun v7 =>
kv (fieldAddrD (some 2) v7) fun v8 =>
kv (ldD .one v8 h) fun v9 =>
kv (aNil a0) fun v10 =>
kv (fieldAddrD (some 3) v10) fun v11 =>
kv (ldD .one v11 h) fun v12 =>
cl (F.slices_Clone_Sapi_Msg_api_Msg E) [v6] h fun v13 h =>
ldD .one v2 h = some v3 ∧
ldD .one v8 h = some v9 ∧
ldD .one v11 h = some v12 ∧
cl (F.slices_Clone_Sapi_Msg_api_Msg E) [v9] h fun v14 h =>
ldD .one v2 h = some v3 ∧
ldD .one v11 h = some v12 ∧
kv (buildD (.struct [(.int .i64 0), (.slice none 0 0), (.slice none 0 0), (.int .i64 0)] [(0, 1), (1, 1), (2, 1), (3, 1)]) [(0, v3), (1, v13), (2, v14), (3, v12)]) fun v15 =>
kP (newD none v15 h) fun v16 h =>
K v16 h)
| _ => False
def F.maps_Clone_map_string_int64_string_int64 (E : FE) : Spec := fun args h K => match args with
| [a0] =>
kv (binD .map .eql true a0 (.map none) h) fun v0 =>
ifV v0 (
K (.map none) h) (
iface 300 a0 h fun v1 h =>
cl (F.maps_clone E) [v1] h fun v2 h =>
kv (assertD true v2 300 false) fun v3 =>
K v3 h)
| _ => False
def F.topic_Topic_Clone (E : FE) : Spec := fun args h K => match args with
| [a0] =>
kv (binD (.ptr true) .eql true a0 (.pointer none) h) fun v0 =>
ifV v0 (
K (.pointer none) h) (
kv (aNil a0) fun v1 =>
kv (fieldAddrD (some 0) v1) fun v2 =>
kv (ldD .one v2 h) fun v3 =>
kv (aNil a0) fun v4 =>
kv (fieldAddrD (some 1) v4) fun v5 =>
kv (ldD .one v5 h) fun v6 =>
cl (F.slices_Clone_Sstring_string E) [v3] h fun v7 h =>
ldD .one v5 h = some v6 ∧
cl (F.maps_Clone_map_string_int64_string_int64 E) [v6] h fun v8 h =>
kv (buildD (.struct [(.slice none 0 0), (.map none)] [(0, 1), (1, 1)]) [(0, v7), (1, v8)]) fun v9 =>
kP (newD none v9 h) fun v10 h =>
K v10 h)
| _ => False
def F.space_Space_Clone (E : FE) : Spec := fun args h K => match args with
| [a0] =>
kv (binD (.ptr true) .eql true a0 (.pointer none) h) fun v0 =>
ifV v0 (
K (.pointer none) h) (
kv (aNil a0) fun v1 =>
kv (fieldAddrD (some 0) v1) fun v2 =>
kv (ldD .one v2 h) fun v3 =>
kv (aNil a0) fun v4 =>
kv (fieldAddrD (some 1) v4) fun v5 =>
kv (ldD .one v5 h) fun v6 =>
kv (aNil a0) fun v7 =>
kv (fieldAddrD (some 2) v7) fun v8 =>
kv (ldD .one v8 h) fun v9 =>
kv (aNil a0) fun v10 =>
kv (fieldAddrD (some 3) v10) fun v11 =>
kv (ldD .one v11 h) fun v12 =>
cl (F.table_Table_Clone E) [v6] h fun v13 h =>
ldD .one v2 h = some v3 ∧
ldD .one v8 h = some v9 ∧
ldD .one v11 h = some v12 ∧
cl (F.queue_Queue_Clone E) [v9] h fun v14 h =>
ldD .one v2 h = some v3 ∧
ldD .one v11 h = some v12 ∧
cl (F.topic_Topic_Clone E) [v12] h fun v15 h =>
ldD .one v2 h = some v3 ∧
kv (buildD (.struct [(.int .i64 0), (.pointer none), (.pointer none), (.pointer none)] [(0, 1), (1, 1), (2, 1), (3, 1)]) [(0, v3), (1, v13), (2, v14), (3, v15)]) fun v16 =>
kP (newD none v16 h) fun v17 h =>
K v17 h)
| _ => False
def F.vault_Vault_sees (E : FE) : Spec := fun args h K => match args with
| [a0, a1, a2] =>
kv (aNil a1) fun v0 =>
kv (fieldAddrD (some 3) v0) fun v1 =>
kv (ldD .one v1 h) fun v2 =>
kv (lookupD (some (.string, (some (.pointer none)))) v2 a2 true h) fun v3 =>
kv (aExtract v3 0) fun v4 =>
kv (aExtract v3 1) fun v5 =>
ifV v5 (
K v4 h) (
kv (aNil a0) fun v6 =>
kv (fieldAddrD (some 0) v6) fun v7 =>
kv (ldD .one v7 h) fun v8 =>
kv (lookupD (some (.string, (some (.pointer none)))) v8 a2 false h) fun v9 =>
cl (F.space_Space_Clone E) [v9] h fun v10 h =>
kv (aNil a1) fun v11 =>
kv (fieldAddrD (some 3) v11) fun v12 =>
kv (ldD .one v12 h) fun v13 =>
kH (mapUpdateD (some (.string, (some (.pointer none)))) v13 a2 v10 h) fun _ h =>
K v10 h)
| _ => False
def F.vault_Vault_count (E : FE) : Spec := fun args h K => match args with
| [a0, a1] =>
kv (aNil a0) fun v0 =>
kv (fieldAddrD (some 0) v0) fun v1 =>
kv (ldD .one v1 h) fun v2 =>
kP (rangeD .map v2 h) fun v3 h =>
∃ (Inv4 : Nat → List V → AHeap → Prop) (n4 : Nat), Inv4 n4 [(.int .i64 0)] h ∧ ∀ (n4 : Nat) (e4 : Nat → V) (h : AHeap), Inv4 n4 [(e4 5)] h →
aNext v3 false h fun v5 h =>
kv (aExtract v5 0) fun v6 =>
ifV v6 (
kV (aEntry v3 h) h fun v7 h =>
kv (aExtract v7 0) fun v8 =>
kv (aNil a1) fun v9 =>
kv (fieldAddrD (some 3) v9) fun v10 =>
kv (ldD .one v10 h) fun v11 =>
kv (lookupD (some (.string, (some (.pointer none)))) v11 v8 true h) fun v12 =>
kv (aExtract v12 0) fun v13 =>
kv (aExtract v12 1) fun v14 =>
kv (aUn .not v14) fun v15 =>
kv (gdV v15 false (some v13)) fun v16 =>
kv (gdV v15 false (binD (.ptr true) .neq true v16 (.pointer none) h)) fun v17 =>
kv (pickV v15 (.bool true) v17) fun v18 =>
ifV v18 (
kv (binD .bad .add true (e4 5) (.int .i64 1) h) fun v19 =>
∃ m, m < n4 ∧ Inv4 m [v19] h) (
∃ m, m < n4 ∧ Inv4 m [(e4 5)] h)) (
kv (aNil a1) fun v20 =>
kv (fieldAddrD (some 3) v20) fun v21 =>
kv (ldD .one v21 h) fun v22 =>
kP (rangeD .map v22 h) fun v23 h =>
∃ (Inv24 : Nat → List V → AHeap → Prop) (n24 : Nat), Inv24 n24 [(e4 5)] h ∧ ∀ (n24 : Nat) (e24 : Nat → V) (h : AHeap), Inv24 n24 [(e24 5)] h →
aNext v23 false h fun v25 h =>
kv (aExtract v25 0) fun v26 =>
ifV v26 (
kV (aEntry v23 h) h fun v27 h =>
kv (aExtract v27 0) fun v28 =>
kv (aExtract v27 1) fun v29 =>
kv (binD (.ptr true) .neq true v29 (.pointer none) h) fun v30 =>
kv (gdV v30 true (some a0)) fun v31 =>
kv (gdV v30 true (aNil v31)) fun v32 =>
kv (gdV v30 true (fieldAddrD (some 0) v32)) fun v33 =>
kv (gdV v30 true (ldD .one v33 h)) fun v34 =>
kv (gdV v30 true (some v28)) fun v35 =>
kv (gdV v30 true (lookupD (some (.string, (some (.pointer none)))) v34 v35 false h)) fun v36 =>
kv (gdV v30 true (binD (.ptr true) .eql true v36 (.pointer none) h)) fun v37 =>
kv (pickV v30 v37 (.bool false)) fun v38 =>
ifV v38 (
kv (binD .bad .add true (e24 5) (.int .i64 1) h) fun v39 =>
∃ m, m < n24 ∧ Inv24 m [v39] h) (
∃ m, m < n24 ∧ Inv24 m [(e24 5)] h)) (
kv (aNil a0) fun v40 =>
kv (fieldAddrD (some 2) v40) fun v41 =>
kv (ldD .one v41 h) fun v42 =>
kP (rangeD .map v42 h) fun v43 h =>
∃ (Inv44 : Nat → List V → AHeap → Prop) (n44 : Nat), Inv44 n44 [(e24 5)] h ∧ ∀ (n44 : Nat) (e44 : Nat → V) (h : AHeap), Inv44 n44 [(e44 5)] h →
aNext v43 false h fun v45 h =>
kv (aExtract v45 0) fun v46 =>
ifV v46 (
kV (aEntry v43 h) h fun v47 h =>
kv (aExtract v47 1) fun v48 =>
kv (aNil v48) fun v49 =>
kv (fieldAddrD (some 0) v49) fun v50 =>
kv (ldD .one v50 h) fun v51 =>
kv (lenD .slice v51 h) fun v52 =>
∃ (Inv53 : Nat → List V → AHeap → Prop) (n53 : Nat), Inv53 n53 [(e44 5), (.int .i64 0)] h ∧ ∀ (n53 : Nat) (e53 : Nat → V) (h : AHeap), Inv53 n53 [(e53 5), (e53 78)] h →
kv (binD .bad .lss false (e53 78) v52 h) fun v54 =>
ifV v54 (
kv (indexAddrD (.slice 5) v51 (e53 78)) fun v55 =>
kv (ldD (.agg 5) v55 h) fun v56 =>
kP (newD none (.agg #[(.int .i64 0), (.string ⟨#[]⟩), (.string ⟨#[]⟩), (.string ⟨#[]⟩), (.int .i64 0)]) h) fun v57 h =>
kH (stD (some 5) v57 v56 h) fun _ h =>
kv (fieldAddrD (some 0) v57) fun v58 =>
kv (ldD .one v58 h) fun v59 =>
kv (binD .bad .eql true v59 (.int .i64 1) h) fun v60 =>
ifV v60 (
kv (binD .bad .add true (e53 5) (.int .i64 1) h) fun v61 =>
kv (binD .bad .add true (e53 78) (.int .i64 1) h) fun v62 =>
∃ m, m < n53 ∧ Inv53 m [v61, v62] h) (
kv (binD .bad .add true (e53 78) (.int .i64 1) h) fun v63 =>
∃ m, m < n53 ∧ Inv53 m [(e53 5), v63] h)) (
∃ m, m < n44 ∧ Inv44 m [(e53 5)] h)) (
K (e44 5) h)))
| _ => False
def F.table_New (E : FE) : Spec := fun args h K => match args with
| [] =>
kP (makeMapD true none h) fun v0 h =>
kv (buildD (.struct [(.map none)] [(0, 1)]) [(0, v0)]) fun v1 =>
kP (newD none v1 h) fun v2 h =>
K v2 h
| _ => False
def F.queue_New (E : FE) : Spec := fun args h K => match args with
| [a0] =>
kv (aMinMax true [a0, (.int .i64 1)]) fun v0 =>
kv (aMinMax false [v0, (.int .i64 9)]) fun v1 =>
kv (buildD (.struct [(.int .i64 0), (.slice none 0 0), (.slice none 0 0), (.int .i64 0)] [(0, 1), (1, 1), (2, 1), (3, 1)]) [(0, v1), (3, (.int .i64 1))]) fun v2 =>
kP (newD none v2 h) fun v3 h =>
K v3 h
| _ => False
def F.topic_New (E : FE) : Spec := fun args h K => match args with
| [] =>
kP (makeMapD true none h) fun v0 h =>
kv (buildD (.struct [(.slice none 0 0), (.map none)] [(0, 1), (1, 1)]) [(1, v0)]) fun v1 =>
kP (newD none v1 h) fun v2 h =>
K v2 h
| _ => False
def F.space_New (E : FE) : Spec := fun args h K => match args with
| [a0, a1] =>
kv (buildD (.struct [(.int .i64 0), (.pointer none), (.pointer none), (.pointer none)] [(0, 1), (1, 1), (2, 1), (3, 1)]) [(0, a0)]) fun v0 =>
kP (newD none v0 h) fun v1 h =>
kv (binD .bad .eql true a0 (.int .i64 1) h) fun v2 =>
ifV v2 (
cl (F.table_New E) [] h fun v3 h =>
kv (aNil v1) fun v4 =>
kv (fieldAddrD (some 1) v4) fun v5 =>
kH (stD (some 1) v5 v3 h) fun _ h =>
K v1 h) (
kv (binD .bad .eql true a0 (.int .i64 2) h) fun v6 =>
ifV v6 (
cl (F.queue_New E) [a1] h fun v7 h =>
kv (aNil v1) fun v8 =>
kv (fieldAddrD (some 2) v8) fun v9 =>
kH (stD (some 1) v9 v7 h) fun _ h =>
K v1 h) (
kv (binD .bad .eql true a0 (.int .i64 3) h) fun v10 =>
ifV v10 (
cl (F.topic_New E) [] h fun v11 h =>
kv (aNil v1) fun v12 =>
kv (fieldAddrD (some 3) v12) fun v13 =>
kH (stD (some 1) v13 v11 h) fun _ h =>
K v1 h) (
K (.pointer none) h)))
| _ => False
def F.table_Table_Put (E : FE) : Spec := fun args h K => match args with
| [a0, a1, a2] =>
kv (binD (.ptr true) .eql true a0 (.pointer none) h) fun v0 =>
ifV v0 (
K (.bool false) h) (
kv (aNil a0) fun v1 =>
kv (fieldAddrD (some 0) v1) fun v2 =>
kv (ldD .one v2 h) fun v3 =>
kv (lookupD (some (.string, (some (.string ⟨#[]⟩)))) v3 a1 true h) fun v4 =>
kv (aExtract v4 0) fun v5 =>
kv (aExtract v4 1) fun v6 =>
kv (aNil a0) fun v7 =>
kv (fieldAddrD (some 0) v7) fun v8 =>
kv (ldD .one v8 h) fun v9 =>
kH (mapUpdateD (some (.string, (some (.string ⟨#[]⟩)))) v9 a1 a2 h) fun _ h =>
kv (aUn .not v6) fun v10 =>
K v10 h)
| _ => False
def F.table_Table_Get (E : FE) : Spec := fun args h K => match args with
| [a0, a1] =>
kv (binD (.ptr true) .eql true a0 (.pointer none) h) fun v0 =>
ifV v0 (
K (.tuple #[(.string ⟨#[]⟩), (.bool false)]) h) (
kv (aNil a0) fun v1 =>
kv (fieldAddrD (some 0) v1) fun v2 =>
kv (ldD .one v2 h) fun v3 =>
kv (lookupD (some (.string, (some (.string ⟨#[]⟩)))) v3 a1 true h) fun v4 =>
kv (aExtract v4 0) fun v5 =>
kv (aExtract v4 1) fun v6 =>
K (.tuple #[v5, v6]) h)
| _ => False
def F.table_Table_Del (E : FE) : Spec := fun args h K => match args with
| [a0, a1] =>
cl (F.table_Table_Get E) [a0, a1] h fun v0 h =>
kv (aExtract v0 0) fun v1 =>
kv (aExtract v0 1) fun v2 =>
kv (aUn .not v2) fun v3 =>
ifV v3 (
K (.bool false) h) (
kv (aNil a0) fun v4 =>
kv (fieldAddrD (some 0) v4) fun v5 =>
kv (ldD .one v5 h) fun v6 =>
kH (deleteD (some (.string, (some (.string ⟨#[]⟩)))) v6 a1 h) fun _ h =>
K (.bool true) h)
| _ => False
def F.space_Space_table (E : FE) : Spec := fun args h K => match args with
| [a0, a1] =>
kP (newD none a1 h) fun v0 h =>
kv (fieldAddrD (some 0) v0) fun v1 =>
kv (ldD .one v1 h) fun v2 =>
kv (binD .bad .eql true v2 (.int .i64 4) h) fun v3 =>
ifV v3 (
kv (aNil a0) fun v4 =>
kv (fieldAddrD (some 1) v4) fun v5 =>
kv (ldD .one v5 h) fun v6 =>
kv (fieldAddrD (some 2) v0) fun v7 =>
kv (ldD .one v7 h) fun v8 =>
kv (fieldAddrD (some 3) v0) fun v9 =>
kv (ldD .one v9 h) fun v10 =>
cl (F.table_Table_Put E) [v6, v8, v10] h fun v11 h =>
K (.string ⟨#[]⟩) h) (
kv (binD .bad .eql true v2 (.int .i64 5) h) fun v12 =>
ifV v12 (
kv (aNil a0) fun v13 =>
kv (fieldAddrD (some 1) v13) fun v14 =>
kv (ldD .one v14 h) fun v15 =>
kv (fieldAddrD (some 2) v0) fun v16 =>
kv (ldD .one v16 h) fun v17 =>
cl (F.table_Table_Del E) [v15, v17] h fun v18 h =>
ifV v18 (
K (.string ⟨#[61]⟩) h) (
K (.string ⟨#[45]⟩) h)) (
kv (aNil a0) fun v19 =>
kv (fieldAddrD (some 1) v19) fun v20 =>
kv (ldD .one v20 h) fun v21 =>
kv (fieldAddrD (some 2) v0) fun v22 =>
kv (ldD .one v22 h) fun v23 =>
cl (F.table_Table_Get E) [v21, v23] h fun v24 h =>
kv (aExtract v24 0) fun v25 =>
kv (aExtract v24 1) fun v26 =>
ifV v26 (
kv (binD .bad .add true (.string ⟨#[61]⟩) v25 h) fun v27 =>
K v27 h) (
K (.string ⟨#[45]⟩) h)))
| _ => False
def F.queue_Queue_Send (E : FE) : Spec := fun args h K => match args with
| [a0, a1] =>
kv (binD (.ptr true) .eql true a0 (.pointer none) h) fun v0 =>
kv (gdV v0 false (some a0)) fun v1 =>
kv (gdV v0 false (aNil v1)) fun v2 =>
kv (gdV v0 false (fieldAddrD (some 1) v2)) fun v3 =>
kv (gdV v0 false (ldD .one v3 h)) fun v4 =>
kv (gdV v0 false (lenD .slice v4 h)) fun v5 =>
kv (gdV v0 false (some a0)) fun v6 =>
kv (gdV v0 false (aNil v6)) fun v7 =>
kv (gdV v0 false (fieldAddrD (some 2) v7)) fun v8 =>
kv (gdV v0 false (ldD .one v8 h)) fun v9 =>
kv (gdV v0 false (lenD .slice v9 h)) fun v10 =>
kv (gdV v0 false (binD .bad .add false v5 v10 h)) fun v11 =>
kv (gdV v0 false (binD .bad .geq true v11 (.int .i64 64) h)) fun v12 =>
kv (pickV v0 (.bool true) v12) fun v13 =>
ifV v13 (
K (.tuple #[(.int .i64 0), (.bool false)]) h) (
kv (aNil a0) fun v14 =>
kv (fieldAddrD (some 1) v14) fun v15 =>
kv (ldD .one v15 h) fun v16 =>
kv (aNil a0) fun v17 =>
kv (fieldAddrD (some 3) v17) fun v18 =>
kv (ldD .one v18 h) fun v19 =>
kv (buildD (.struct [(.int .i64 0), (.string ⟨#[]⟩), (.int .i64 0), (.int .i64 0)] [(0, 1), (1, 1), (2, 1), (3, 1)]) [(0, v19), (1, a1)]) fun v20 =>
kP (buildSliceD (some (4, [(.int .i64 0), (.string ⟨#[]⟩), (.int .i64 0), (.int .i64 0)])) 1 [(0, v20)] h) fun v21 h =>
ldD .one v15 h = some v16 ∧
kP (appendD (some (4, 40, [(.int .i64 0), (.string ⟨#[]⟩), (.int .i64 0), (.int .i64 0)])) v16 v21 h) fun v22 h =>
kv (aNil a0) fun v23 =>
kv (fieldAddrD (some 1) v23) fun v24 =>
kH (stD (some 1) v24 v22 h) fun _ h =>
kv (aNil a0) fun v25 =>
kv (fieldAddrD (some 3) v25) fun v26 =>
kv (ldD .one v26 h) fun v27 =>
kv (binD .bad .add true v27 (.int .i64 1) h) fun v28 =>
kv (aNil a0) fun v29 =>
kv (fieldAddrD (some 3) v29) fun v30 =>
kH (stD (some 1) v30 v28 h) fun _ h =>
kv (aNil a0) fun v31 =>
kv (fieldAddrD (some 3) v31) fun v32 =>
kv (ldD .one v32 h) fun v33 =>
kv (binD .bad .sub true v33 (.int .i64 1) h) fun v34 =>
K (.tuple #[v34, (.bool true)]) h)
| _ => False
def F.space_text (E : FE) : Spec := fun args h K => match args with
| [a0] =>
cl (F.strconv_FormatInt E) [a0, (.int .i64 10)] h fun v0 h =>
K v0 h
| _ => False
def F.slices_Delete_Sapi_Msg_api_Msg (E : FE) : Spec := fun args h K => match args with
| [a0, a1, a2] =>
kv (lenD .slice a0 h) fun v0 =>
kv (sliceD (.slice 4) a0 (some a1) (some a2) (some v0) h) fun v1 =>
kv (binD .bad .eql false a1 a2 h) fun v2 =>
ifV v2 (
K a0 h) (
kv (lenD .slice a0 h) fun v3 =>
kv (sliceD (.slice 4) a0 none (some a1) none h) fun v4 =>
kv (sliceD (.slice 4) a0 (some a2) none none h) fun v5 =>
kP (appendD (some (4, 40, [(.int .i64 0), (.string ⟨#[]⟩), (.int .i64 0), (.int .i64 0)])) v4 v5 h) fun v6 h =>
kv (lenD .slice v6 h) fun v7 =>
kv (sliceD (.slice 4) v6 (some v7) (some v3) none h) fun v8 =>
kH (clearD (some (some [(.int .i64 0), (.string ⟨#[]⟩), (.int .i64 0), (.int .i64 0)])) v8 h) fun _ h =>
K v6 h)
| _ => False
def F.queue_Queue_Recv (E : FE) : Spec := fun args h K => match args with
| [a0, a1, a2] =>
kP (newD none (.agg #[(.int .i64 0), (.string ⟨#[]⟩), (.int .i64 0), (.int .i64 0)]) h) fun v0 h =>
kv (binD (.ptr true) .eql true a0 (.pointer none) h) fun v1 =>
kv (gdV v1 false (some a2)) fun v2 =>
kv (gdV v1 false (binD .bad .lss true v2 (.int .i64 1) h)) fun v3 =>
kv (pickV v1 (.bool true) v3) fun v4 =>
kv (gdV v4 false (some a2)) fun v5 =>
kv (gdV v4 false (binD .bad .gtr true v5 (.int .i64 1000) h)) fun v6 =>
kv (pickV v4 (.bool true) v6) fun v7 =>
kv (gdV v7 false (some a1)) fun v8 =>
kv (gdV v7 false (binD .bad .lss true v8 (.int .i64 0) h)) fun v9 =>
kv (pickV v7 (.bool true) v9) fun v10 =>
kv (gdV v10 false (some a1)) fun v11 =>
kv (gdV v10 false (binD .bad .gtr true v11 (.int .i64 1099511627776) h)) fun v12 =>
kv (pickV v10 (.bool true) v12) fun v13 =>
ifV v13 (
kv (buildD (.struct [(.int .i64 0), (.string ⟨#[]⟩), (.int .i64 0), (.int .i64 0)] [(0, 1), (1, 1), (2, 1), (3, 1)]) []) fun v14 =>
kH (stD (some 4) v0 v14 h) fun _ h =>
kv (ldD (.agg 4) v0 h) fun r15 =>
K (.tuple #[r15, (.bool false)]) h) (
∃ (Inv16 : Nat → List V → AHeap → Prop) (n16 : Nat), Inv16 n16 [(.int .i64 0)] h ∧ ∀ (n16 : Nat) (e16 : Nat → V) (h : AHeap), Inv16 n16 [(e16 8)] h →
kv (aNil a0) fun v17 =>
kv (fieldAddrD (some 1) v17) fun v18 =>
kv (ldD .one v18 h) fun v19 =>
kv (lenD .slice v19 h) fun v20 =>
kv (binD .bad .lss false (e16 8) v20 h) fun v21 =>
ifV v21 (
kv (aNil a0) fun v22 =>
kv (fieldAddrD (some 1) v22) fun v23 =>
kv (ldD .one v23 h) fun v24 =>
kv (indexAddrD (.slice 4) v24 (e16 8)) fun v25 =>
kv (aNil v25) fun v26 =>
kv (fieldAddrD (some 3) v26) fun v27 =>
kv (ldD .one v27 h) fun v28 =>
kv (binD .bad .gtr false v28 a1 h) fun v29 =>
ifV v29 (
kv (binD .bad .add true (e16 8) (.int .i64 1) h) fun v30 =>
∃ m, m < n16 ∧ Inv16 m [v30] h) (
kv (aNil v25) fun v31 =>
kv (fieldAddrD (some 2) v31) fun v32 =>
kv (ldD .one v32 h) fun v33 =>
kv (aNil a0) fun v34 =>
kv (fieldAddrD (some 0) v34) fun v35 =>
kv (ldD .one v35 h) fun v36 =>
kv (binD .bad .geq false v33 v36 h) fun v37 =>
ifV v37 (
kv (aNil a0) fun v38 =>
kv (fieldAddrD (some 2) v38) fun v39 =>
kv (ldD .one v39 h) fun v40 =>
kv (aNil v25) fun v41 =>
kv (ldD (.agg 4) v41 h) fun v42 =>
kP (buildSliceD (some (4, [(.int .i64 0), (.string ⟨#[]⟩), (.int .i64 0), (.int .i64 0)])) 1 [(0, v42)] h) fun v43 h =>
ldD .one v39 h = some v40 ∧
kP (appendD (some (4, 40, [(.int .i64 0), (.string ⟨#[]⟩), (.int .i64 0), (.int .i64 0)])) v40 v43 h) fun v44 h =>
kv (aNil a0) fun v45 =>
kv (fieldAddrD (some 2) v45) fun v46 =>
kH (stD (some 1) v46 v44 h) fun _ h =>
kv (aNil a0) fun v47 =>
kv (fieldAddrD (some 1) v47) fun v48 =>
kv (ldD .one v48 h) fun v49 =>
kv (binD .bad .add true (e16 8) (.int .i64 1) h) fun v50 =>
cl (F.slices_Delete_Sapi_Msg_api_Msg E) [v49, (e16 8), v50] h fun v51 h =>
kv (aNil a0) fun v52 =>
kv (fieldAddrD (some 1) v52) fun v53 =>
kH (stD (some 1) v53 v51 h) fun _ h =>
∃ m, m < n16 ∧ Inv16 m [(e16 8)] h) (
kv (aNil v25) fun v54 =>
kv (fieldAddrD (some 2) v54) fun v55 =>
kv (ldD .one v55 h) fun v56 =>
kv (binD .bad .add true v56 (.int .i64 1) h) fun v57 =>
kv (aNil v25) fun v58 =>
kv (fieldAddrD (some 2) v58) fun v59 =>
kH (stD (some 1) v59 v57 h) fun _ h =>
kv (binD .bad .add false a1 a2 h) fun v60 =>
kv (aNil v25) fun v61 =>
kv (fieldAddrD (some 3) v61) fun v62 =>
kH (stD (some 1) v62 v60 h) fun _ h =>
kv (aNil v25) fun v63 =>
kv (ldD (.agg 4) v63 h) fun v64 =>
kH (stD (some 4) v0 v64 h) fun _ h =>
kv (ldD (.agg 4) v0 h) fun r65 =>
K (.tuple #[r65, (.bool true)]) h))) (
kv (buildD (.struct [(.int .i64 0), (.string ⟨#[]⟩), (.int .i64 0), (.int .i64 0)] [(0, 1), (1, 1), (2, 1), (3, 1)]) []) fun v66 =>
kH (stD (some 4) v0 v66 h) fun _ h =>
kv (ldD (.agg 4) v0 h) fun r67 =>
K (.tuple #[r67, (.bool false)]) h))
| _ => False
def F.space_number (E : FE) : Spec := fun args h K => match args with
| [a0] =>
kv (binD .bad .eql true a0 (.string ⟨#[]⟩) h) fun v0 =>
kv (gdV v0 false (some a0)) fun v1 =>
kv (gdV v0 false (lenD .str v1 h)) fun v2 =>
kv (gdV v0 false (binD .bad .gtr true v2 (.int .i64 12) h)) fun v3 =>
kv (pickV v0 (.bool true) v3) fun v4 =>
kv (gdV v4 false (some a0)) fun v5 =>
gdC v4 false h (fun K6 => cl (F.strings_Trim E) [v5, (.string ⟨#[48, 49, 50, 51, 52, 53, 54, 55, 56, 57]⟩)] h fun v h => K6 v h) fun v7 h =>
kv (gdV v4 false (binD .bad .neq true v7 (.string ⟨#[]⟩) h)) fun v8 =>
kv (pickV v4 (.bool true) v8) fun v9 =>
kv (gdV v9 false (some a0)) fun v10 =>
kv (gdV v9 false (indexD .str v10 (.int .i64 0))) fun v11 =>
kv (gdV v9 false (binD .bad .eql true v11 (.int .u8 48) h)) fun v12 =>
kv (gdV v9 false (some v12)) fun v13 =>
kv (gdV v13 true (some a0)) fun v14 =>
kv (gdV v13 true (lenD .str v14 h)) fun v15 =>
kv (gdV v13 true (binD .bad .gtr true v15 (.int .i64 1) h)) fun v16 =>
kv (gdV v9 false (pickV v13 v16 (.bool false))) fun v17 =>
kv (pickV v9 (.bool true) v17) fun v18 =>
ifV v18 (
K (.tuple #[(.int .i64 0), (.bool false)]) h) (
cl (F.strconv_ParseInt E) [a0, (.int .i64 10), (.int .i64 64)] h fun v19 h =>
kv (aExtract v19 0) fun v20 =>
kv (aExtract v19 1) fun v21 =>
kv (binD .iface .eql true v21 .nilIface h) fun v22 =>
K (.tuple #[v20, v22]) h)
| _ => False
def F.slices_IndexFunc_Sapi_Msg_api_Msg (E : FE) : Spec := fun args h K => match args with
| [a0, a1] =>
kv (lenD .slice a0 h) fun v0 =>
∃ (Inv1 : Nat → List V → AHeap → Prop) (n1 : Nat), Inv1 n1 [(.int .i64 0)] h ∧ ∀ (n1 : Nat) (e1 : Nat → V) (h : AHeap), Inv1 n1 [(e1 8)] h →
kv (binD .bad .lss false (e1 8) v0 h) fun v2 =>
ifV v2 (
kv (indexAddrD (.slice 4) a0 (e1 8)) fun v3 =>
kv (ldD (.agg 4) v3 h) fun v4 =>
aCall E.I a1 [v4] h fun v5 h =>
ifV v5 (
K (e1 8) h) (
kv (binD .bad .add true (e1 8) (.int .i64 1) h) fun v6 =>
∃ m, m < n1 ∧ Inv1 m [v6] h)) (
K (.int .i64 (-1)) h)
| _ => False
def F.queue_Queue_Ack (E : FE) : Spec := fun args h K => match args with
| [a0, a1, a2, a3] =>
kP (newD none a1 h) fun v0 h =>
kP (newD none a2 h) fun v1 h =>
kP (newD none a3 h) fun v2 h =>
kv (binD (.ptr true) .eql true a0 (.pointer none) h) fun v3 =>
ifV v3 (
K (.bool false) h) (
kv (aNil a0) fun v4 =>
kv (fieldAddrD (some 1) v4) fun v5 =>
kv (ldD .one v5 h) fun v6 =>
cl (F.slices_IndexFunc_Sapi_Msg_api_Msg E) [v6, (.func (.func (E.k 0)) #[] #[v0, v1, v2])] h fun v7 h =>
kv (binD .bad .lss true v7 (.int .i64 0) h) fun v8 =>
ifV v8 (
K (.bool false) h) (
kv (aNil a0) fun v9 =>
kv (fieldAddrD (some 1) v9) fun v10 =>
kv (ldD .one v10 h) fun v11 =>
kv (binD .bad .add true v7 (.int .i64 1) h) fun v12 =>
cl (F.slices_Delete_Sapi_Msg_api_Msg E) [v11, v7, v12] h fun v13 h =>
kv (aNil a0) fun v14 =>
kv (fieldAddrD (some 1) v14) fun v15 =>
kH (stD (some 1) v15 v13 h) fun _ h =>
K (.bool true) h))
| _ => False
def F.queue_Queue_Dead (E : FE) : Spec := fun args h K => match args with
| [a0] =>
kP (newD none (.agg #[(.int .i64 0), (.string ⟨#[]⟩), (.int .i64 0), (.int .i64 0)]) h) fun v0 h =>
kv (binD (.ptr true) .eql true a0 (.pointer none) h) fun v1 =>
kv (gdV v1 false (some a0)) fun v2 =>
kv (gdV v1 false (aNil v2)) fun v3 =>
kv (gdV v1 false (fieldAddrD (some 2) v3)) fun v4 =>
kv (gdV v1 false (ldD .one v4 h)) fun v5 =>
kv (gdV v1 false (lenD .slice v5 h)) fun v6 =>
kv (gdV v1 false (binD .bad .eql true v6 (.int .i64 0) h)) fun v7 =>
kv (pickV v1 (.bool true) v7) fun v8 =>
ifV v8 (
kv (buildD (.struct [(.int .i64 0), (.string ⟨#[]⟩), (.int .i64 0), (.int .i64 0)] [(0, 1), (1, 1), (2, 1), (3, 1)]) []) fun v9 =>
kH (stD (some 4) v0 v9 h) fun _ h =>
kv (ldD (.agg 4) v0 h) fun r10 =>
K (.tuple #[r10, (.bool false)]) h) (
kv (aNil a0) fun v11 =>
kv (fieldAddrD (some 2) v11) fun v12 =>
kv (ldD .one v12 h) fun v13 =>
kv (indexAddrD (.slice 4) v13 (.int .i64 0)) fun v14 =>
kv (ldD (.agg 4) v14 h) fun v15 =>
kP (newD none (.agg #[(.int .i64 0), (.string ⟨#[]⟩), (.int .i64 0), (.int .i64 0)]) h) fun v16 h =>
kH (stD (some 4) v16 v15 h) fun _ h =>
kv (aNil a0) fun v17 =>
kv (fieldAddrD (some 2) v17) fun v18 =>
kv (ldD .one v18 h) fun v19 =>
cl (F.slices_Delete_Sapi_Msg_api_Msg E) [v19, (.int .i64 0), (.int .i64 1)] h fun v20 h =>
kv (aNil a0) fun v21 =>
kv (fieldAddrD (some 2) v21) fun v22 =>
kH (stD (some 1) v22 v20 h) fun _ h =>
kv (ldD (.agg 4) v16 h) fun v23 =>
kH (stD (some 4) v0 v23 h) fun _ h =>
kv (ldD (.agg 4) v0 h) fun r24 =>
K (.tuple #[r24, (.bool true)]) h)
| _ => False
def F.space_Space_queue (E : FE) : Spec := fun args h K => match args with
| [a0, a1, a2] =>
kP (newD none a1 h) fun v0 h =>
kv (fieldAddrD (some 0) v0) fun v1 =>
kv (ldD .one v1 h) fun v2 =>
kv (binD .bad .eql true v2 (.int .i64 6) h) fun v3 =>
ifV v3 (
kv (aNil a0) fun v4 =>
kv (fieldAddrD (some 2) v4) fun v5 =>
kv (ldD .one v5 h) fun v6 =>
kv (fieldAddrD (some 3) v0) fun v7 =>
kv (ldD .one v7 h) fun v8 =>
cl (F.queue_Queue_Send E) [v6, v8] h fun v9 h =>
kv (aExtract v9 0) fun v10 =>
kv (aExtract v9 1) fun v11 =>
kv (aUn .not v11) fun v12 =>
ifV v12 (
K (.tuple #[(.string ⟨#[]⟩), (.int .i64 6)]) h) (
cl (F.space_text E) [v10] h fun v13 h =>
K (.tuple #[v13, (.int .i64 0)]) h)) (
kv (binD .bad .eql true v2 (.int .i64 7) h) fun v14 =>
ifV v14 (
kv (aNil a0) fun v15 =>
kv (fieldAddrD (some 2) v15) fun v16 =>
kv (ldD .one v16 h) fun v17 =>
kv (fieldAddrD (some 4) v0) fun v18 =>
kv (ldD .one v18 h) fun v19 =>
(cl (F.queue_Queue_Recv E) [v17, a2, v19] h fun v20 h =>
kv (aExtract v20 0) fun v21 =>
kv (aExtract v20 1) fun v22 =>
kP (newD none (.agg #[(.int .i64 0), (.string ⟨#[]⟩), (.int .i64 0), (.int .i64 0)]) h) fun v23 h =>
ldD .one v16 h = some v17 ∧
ldD .one v18 h = some v19 ∧
kH (stD (some 4) v23 v21 h) fun _ h =>
ifV v22 (
kv (fieldAddrD (some 0) v23) fun v24 =>
kv (ldD .one v24 h) fun v25 =>
kv (fieldAddrD (some 2) v23) fun v26 =>
kv (ldD .one v26 h) fun v27 =>
kv (fieldAddrD (some 1) v23) fun v28 =>
kv (ldD .one v28 h) fun v29 =>
cl (F.space_text E) [v25] h fun v30 h =>
ldD .one v26 h = some v27 ∧
ldD .one v28 h = some v29 ∧
kv (binD .bad .add true v30 (.string ⟨#[32]⟩) h) fun v31 =>
cl (F.space_text E) [v27] h fun v32 h =>
ldD .one v28 h = some v29 ∧
kv (binD .bad .add false v31 v32 h) fun v33 =>
kv (binD .bad .add true v33 (.string ⟨#[32]⟩) h) fun v34 =>
kv (binD .bad .add false v34 v29 h) fun v35 =>
K (.tuple #[v35, (.int .i64 0)]) h) (
K (.tuple #[(.string ⟨#[]⟩), (.int .i64 0)]) h)) ∧
(kP (newD none (.agg #[(.int .i64 0), (.string ⟨#[]⟩), (.int .i64 0), (.int .i64 0)]) h) fun v36 h =>
ldD .one v16 h = some v17 ∧
ldD .one v18 h = some v19 ∧
cl (F.queue_Queue_Recv E) [v17, a2, v19] h fun v37 h =>
kv (aExtract v37 0) fun v38 =>
kv (aExtract v37 1) fun v39 =>
kH (stD (some 4) v36 v38 h) fun _ h =>
ifV v39 (
kv (fieldAddrD (some 0) v36) fun v40 =>
kv (ldD .one v40 h) fun v41 =>
kv (fieldAddrD (some 2) v36) fun v42 =>
kv (ldD .one v42 h) fun v43 =>
kv (fieldAddrD (some 1) v36) fun v44 =>
kv (ldD .one v44 h) fun v45 =>
cl (F.space_text E) [v41] h fun v46 h =>
ldD .one v42 h = some v43 ∧
ldD .one v44 h = some v45 ∧
kv (binD .bad .add true v46 (.string ⟨#[32]⟩) h) fun v47 =>
cl (F.space_text E) [v43] h fun v48 h =>
ldD .one v44 h = some v45 ∧
kv (binD .bad .add false v47 v48 h) fun v49 =>
kv (binD .bad .add true v49 (.string ⟨#[32]⟩) h) fun v50 =>
kv (binD .bad .add false v50 v45 h) fun v51 =>
K (.tuple #[v51, (.int .i64 0)]) h) (
K (.tuple #[(.string ⟨#[]⟩), (.int .i64 0)]) h))) (
kv (binD .bad .eql true v2 (.int .i64 8) h) fun v52 =>
ifV v52 (
kv (fieldAddrD (some 2) v0) fun v53 =>
kv (ldD .one v53 h) fun v54 =>
cl (F.space_number E) [v54] h fun v55 h =>
kv (aExtract v55 0) fun v56 =>
kv (aExtract v55 1) fun v57 =>
kv (aUn .not v57) fun v58 =>
ifV v58 (
K (.tuple #[(.string ⟨#[]⟩), (.int .i64 1)]) h) (
kv (aNil a0) fun v59 =>
kv (fieldAddrD (some 2) v59) fun v60 =>
kv (ldD .one v60 h) fun v61 =>
kv (fieldAddrD (some 4) v0) fun v62 =>
kv (ldD .one v62 h) fun v63 =>
cl (F.queue_Queue_Ack E) [v61, v63, v56, a2] h fun v64 h =>
kv (aUn .not v64) fun v65 =>
ifV v65 (
K (.tuple #[(.string ⟨#[]⟩), (.int .i64 3)]) h) (
K (.tuple #[(.string ⟨#[]⟩), (.int .i64 0)]) h))) (
kv (binD .bad .eql true v2 (.int .i64 9) h) fun v66 =>
ifV v66 (
kv (aNil a0) fun v67 =>
kv (fieldAddrD (some 2) v67) fun v68 =>
kv (ldD .one v68 h) fun v69 =>
cl (F.queue_Queue_Dead E) [v69] h fun v70 h =>
kv (aExtract v70 0) fun v71 =>
kv (aExtract v70 1) fun v72 =>
kP (newD none (.agg #[(.int .i64 0), (.string ⟨#[]⟩), (.int .i64 0), (.int .i64 0)]) h) fun v73 h =>
kH (stD (some 4) v73 v71 h) fun _ h =>
ifV v72 (
kv (fieldAddrD (some 0) v73) fun v74 =>
kv (ldD .one v74 h) fun v75 =>
kv (fieldAddrD (some 1) v73) fun v76 =>
kv (ldD .one v76 h) fun v77 =>
cl (F.space_text E) [v75] h fun v78 h =>
ldD .one v76 h = some v77 ∧
kv (binD .bad .add true v78 (.string ⟨#[32]⟩) h) fun v79 =>
kv (binD .bad .add false v79 v77 h) fun v80 =>
K (.tuple #[v80, (.int .i64 0)]) h) (
K (.tuple #[(.string ⟨#[]⟩), (.int .i64 0)]) h)) (
K (.tuple #[(.string ⟨#[]⟩), (.int .i64 0)]) h))))
| _ => False
def F.topic_Topic_Len (E : FE) : Spec := fun args h K => match args with
| [a0] =>
kv (binD (.ptr true) .eql true a0 (.pointer none) h) fun v0 =>
ifV v0 (
K (.int .i64 0) h) (
kv (aNil a0) fun v1 =>
kv (fieldAddrD (some 0) v1) fun v2 =>
kv (ldD .one v2 h) fun v3 =>
kv (lenD .slice v3 h) fun v4 =>
K v4 h)
| _ => False
def F.topic_Topic_Pub (E : FE) : Spec := fun args h K => match args with
| [a0, a1] =>
kv (binD (.ptr true) .eql true a0 (.pointer none) h) fun v0 =>
kv (gdV v0 false (some a0)) fun v1 =>
kv (gdV v0 false (aNil v1)) fun v2 =>
kv (gdV v0 false (fieldAddrD (some 0) v2)) fun v3 =>
kv (gdV v0 false (ldD .one v3 h)) fun v4 =>
kv (gdV v0 false (lenD .slice v4 h)) fun v5 =>
kv (gdV v0 false (binD .bad .geq true v5 (.int .i64 64) h)) fun v6 =>
kv (pickV v0 (.bool true) v6) fun v7 =>
ifV v7 (
K (.tuple #[(.int .i64 0), (.bool false)]) h) (
kv (aNil a0) fun v8 =>
kv (fieldAddrD (some 0) v8) fun v9 =>
kv (ldD .one v9 h) fun v10 =>
kP (buildSliceD (some (1, [(.string ⟨#[]⟩)])) 1 [(0, a1)] h) fun v11 h =>
kP (appendD (some (1, 16, [(.string ⟨#[]⟩)])) v10 v11 h) fun v12 h =>
kv (aNil a0) fun v13 =>
kv (fieldAddrD (some 0) v13) fun v14 =>
kH (stD (some 1) v14 v12 h) fun _ h =>
cl (F.topic_Topic_Len E) [a0] h fun v15 h =>
kv (binD .bad .sub true v15 (.int .i64 1) h) fun v16 =>
K (.tuple #[v16, (.bool true)]) h)
| _ => False
def F.topic_Topic_At (E : FE) : Spec := fun args h K => match args with
| [a0, a1] =>
kv (binD (.ptr true) .eql true a0 (.pointer none) h) fun v0 =>
ifV v0 (
K (.int .i64 0) h) (
kv (aNil a0) fun v1 =>
kv (fieldAddrD (some 1) v1) fun v2 =>
kv (ldD .one v2 h) fun v3 =>
kv (lookupD (some (.string, (some (.int .i64 0)))) v3 a1 false h) fun v4 =>
K v4 h)
| _ => False
def F.topic_Topic_Fetch (E : FE) : Spec := fun args h K => match args with
| [a0, a1, a2] =>
cl (F.topic_Topic_At E) [a0, a1] h fun v0 h =>
kv (aMinMax true [a2, (.int .i64 0)]) fun v1 =>
cl (F.topic_Topic_Len E) [a0] h fun v2 h =>
kv (binD .bad .sub false v2 v0 h) fun v3 =>
kv (aMinMax false [v1, v3]) fun v4 =>
kv (binD .bad .leq true v4 (.int .i64 0) h) fun v5 =>
ifV v5 (
K (.slice none 0 0) h) (
kv (aNil a0) fun v6 =>
kv (fieldAddrD (some 0) v6) fun v7 =>
kv (ldD .one v7 h) fun v8 =>
kv (binD .bad .add false v0 v4 h) fun v9 =>
kv (sliceD (.slice 1) v8 (some v0) (some v9) none h) fun v10 =>
cl (F.slices_Clone_Sstring_string E) [v10] h fun v11 h =>
K v11 h)
| _ => False
def F.topic_Topic_Seek (E : FE) : Spec := fun args h K => match args with
| [a0, a1, a2, a3] =>
kv (binD (.ptr true) .eql true a0 (.pointer none) h) fun v0 =>
kv (gdV v0 false (some a0)) fun v1 =>
kv (gdV v0 false (some a1)) fun v2 =>
gdC v0 false h (fun K3 => cl (F.topic_Topic_At E) [v1, v2] h fun v h => K3 v h) fun v4 h =>
kv (gdV v0 false (some a2)) fun v5 =>
kv (gdV v0 false (binD .bad .neq false v4 v5 h)) fun v6 =>
kv (pickV v0 (.bool true) v6) fun v7 =>
kv (gdV v7 false (some a3)) fun v8 =>
kv (gdV v7 false (some a2)) fun v9 =>
kv (gdV v7 false (binD .bad .lss false v8 v9 h)) fun v10 =>
kv (pickV v7 (.bool true) v10) fun v11 =>
kv (gdV v11 false (some a3)) fun v12 =>
kv (gdV v11 false (some a0)) fun v13 =>
gdC v11 false h (fun K14 => cl (F.topic_Topic_Len E) [v13] h fun v h => K14 v h) fun v15 h =>
kv (gdV v11 false (binD .bad .gtr false v12 v15 h)) fun v16 =>
kv (pickV v11 (.bool true) v16) fun v17 =>
ifV v17 (
K (.bool false) h) (
kv (aNil a0) fun v18 =>
kv (fieldAddrD (some 1) v18) fun v19 =>
kv (ldD .one v19 h) fun v20 =>
kv (lookupD (some (.string, (some (.int .i64 0)))) v20 a1 true h) fun v21 =>
kv (aExtract v21 0) fun v22 =>
kv (aExtract v21 1) fun v23 =>
kv (aUn .not v23) fun v24 =>
kv (gdV v24 true (some a0)) fun v25 =>
kv (gdV v24 true (aNil v25)) fun v26 =>
kv (gdV v24 true (fieldAddrD (some 1) v26)) fun v27 =>
kv (gdV v24 true (ldD .one v27 h)) fun v28 =>
kv (gdV v24 true (lenD .map v28 h)) fun v29 =>
kv (gdV v24 true (binD .bad .geq true v29 (.int .i64 16) h)) fun v30 =>
kv (pickV v24 v30 (.bool false)) fun v31 =>
ifV v31 (
K (.bool false) h) (
kv (aNil a0) fun v32 =>
kv (fieldAddrD (some 1) v32) fun v33 =>
kv (ldD .one v33 h) fun v34 =>
kH (mapUpdateD (some (.string, (some (.int .i64 0)))) v34 a1 a3 h) fun _ h =>
K (.bool true) h))
| _ => False
def F.space_Space_topic (E : FE) : Spec := fun args h K => match args with
| [a0, a1] =>
kP (newD none a1 h) fun v0 h =>
kv (fieldAddrD (some 0) v0) fun v1 =>
kv (ldD .one v1 h) fun v2 =>
kv (binD .bad .eql true v2 (.int .i64 10) h) fun v3 =>
ifV v3 (
kv (aNil a0) fun v4 =>
kv (fieldAddrD (some 3) v4) fun v5 =>
kv (ldD .one v5 h) fun v6 =>
kv (fieldAddrD (some 3) v0) fun v7 =>
kv (ldD .one v7 h) fun v8 =>
cl (F.topic_Topic_Pub E) [v6, v8] h fun v9 h =>
kv (aExtract v9 0) fun v10 =>
kv (aExtract v9 1) fun v11 =>
kv (aUn .not v11) fun v12 =>
ifV v12 (
K (.tuple #[(.string ⟨#[]⟩), (.int .i64 6)]) h) (
cl (F.space_text E) [v10] h fun v13 h =>
K (.tuple #[v13, (.int .i64 0)]) h)) (
kv (binD .bad .eql true v2 (.int .i64 11) h) fun v14 =>
ifV v14 (
kv (aNil a0) fun v15 =>
kv (fieldAddrD (some 3) v15) fun v16 =>
kv (ldD .one v16 h) fun v17 =>
kv (fieldAddrD (some 2) v0) fun v18 =>
kv (ldD .one v18 h) fun v19 =>
kv (fieldAddrD (some 4) v0) fun v20 =>
kv (ldD .one v20 h) fun v21 =>
cl (F.topic_Topic_Fetch E) [v17, v19, v21] h fun v22 h =>
kv (lenD .slice v22 h) fun v23 =>
∃ K24 : List V → AHeap → Prop, (
∃ (Inv25 : Nat → List V → AHeap → Prop) (n25 : Nat), Inv25 n25 [(.string ⟨#[]⟩), (.int .i64 0)] h ∧ ∀ (n25 : Nat) (e25 : Nat → V) (h : AHeap), Inv25 n25 [(e25 8), (e25 44)] h →
kv (binD .bad .lss false (e25 44) v23 h) fun v26 =>
ifV v26 (
kv (indexAddrD (.slice 1) v22 (e25 44)) fun v27 =>
kv (ldD .one v27 h) fun v28 =>
kv (lenD .str v28 h) fun v29 =>
cl (F.space_text E) [v29] h fun v30 h =>
kv (binD .bad .add true v30 (.string ⟨#[58]⟩) h) fun v31 =>
kv (binD .bad .add false v31 v28 h) fun v32 =>
kv (lenD .str (e25 8) h) fun v33 =>
kv (lenD .str v32 h) fun v34 =>
kv (binD .bad .add false v33 v34 h) fun v35 =>
kv (binD .bad .gtr true v35 (.int .i64 200) h) fun v36 =>
ifV v36 (
K24 [(e25 8)] h) (
kv (binD .bad .add false (e25 8) v32 h) fun v37 =>
kv (binD .bad .add true (e25 44) (.int .i64 1) h) fun v38 =>
∃ m, m < n25 ∧ Inv25 m [v37, v38] h)) (
K24 [(e25 8)] h)) ∧ ∀ (e24 : Nat → V) (h : AHeap), K24 [(e24 8)] h →
K (.tuple #[(e24 8), (.int .i64 0)]) h) (
kv (fieldAddrD (some 3) v0) fun v39 =>
kv (ldD .one v39 h) fun v40 =>
cl (F.space_number E) [v40] h fun v41 h =>
kv (aExtract v41 0) fun v42 =>
kv (aExtract v41 1) fun v43 =>
kv (aUn .not v43) fun v44 =>
ifV v44 (
K (.tuple #[(.string ⟨#[]⟩), (.int .i64 1)]) h) (
kv (aNil a0) fun v45 =>
kv (fieldAddrD (some 3) v45) fun v46 =>
kv (ldD .one v46 h) fun v47 =>
kv (fieldAddrD (some 2) v0) fun v48 =>
kv (ldD .one v48 h) fun v49 =>
kv (fieldAddrD (some 4) v0) fun v50 =>
kv (ldD .one v50 h) fun v51 =>
cl (F.topic_Topic_Seek E) [v47, v49, v42, v51] h fun v52 h =>
kv (aUn .not v52) fun v53 =>
ifV v53 (
K (.tuple #[(.string ⟨#[]⟩), (.int .i64 3)]) h) (
K (.tuple #[(.string ⟨#[]⟩), (.int .i64 0)]) h))))
| _ => False
def F.space_Space_Do (E : FE) : Spec := fun args h K => match args with
| [a0, a1, a2] =>
kP (newD none a1 h) fun v0 h =>
kv (binD (.ptr true) .eql true a0 (.pointer none) h) fun v1 =>
ifV v1 (
K (.tuple #[(.string ⟨#[]⟩), (.int .i64 3)]) h) (
kv (aNil a0) fun v2 =>
kv (fieldAddrD (some 0) v2) fun v3 =>
kv (ldD .one v3 h) fun v4 =>
kv (binD .bad .eql true v4 (.int .i64 1) h) fun v5 =>
kv (gdV v5 true (fieldAddrD (some 0) v0)) fun v6 =>
kv (gdV v5 true (ldD .one v6 h)) fun v7 =>
kv (gdV v5 true (binD .bad .geq true v7 (.int .i64 3) h)) fun v8 =>
kv (pickV v5 v8 (.bool false)) fun v9 =>
kv (gdV v9 true (fieldAddrD (some 0) v0)) fun v10 =>
kv (gdV v9 true (ldD .one v10 h)) fun v11 =>
kv (gdV v9 true (binD .bad .leq true v11 (.int .i64 5) h)) fun v12 =>
kv (pickV v9 v12 (.bool false)) fun v13 =>
ifV v13 (
kv (ldD (.agg 5) v0 h) fun v14 =>
cl (F.space_Space_table E) [a0, v14] h fun v15 h =>
K (.tuple #[v15, (.int .i64 0)]) h) (
kv (aNil a0) fun v16 =>
kv (fieldAddrD (some 0) v16) fun v17 =>
kv (ldD .one v17 h) fun v18 =>
kv (binD .bad .eql true v18 (.int .i64 2) h) fun v19 =>
kv (gdV v19 true (fieldAddrD (some 0) v0)) fun v20 =>
kv (gdV v19 true (ldD .one v20 h)) fun v21 =>
kv (gdV v19 true (binD .bad .geq true v21 (.int .i64 6) h)) fun v22 =>
kv (pickV v19 v22 (.bool false)) fun v23 =>
kv (gdV v23 true (fieldAddrD (some 0) v0)) fun v24 =>
kv (gdV v23 true (ldD .one v24 h)) fun v25 =>
kv (gdV v23 true (binD .bad .leq true v25 (.int .i64 9) h)) fun v26 =>
kv (pickV v23 v26 (.bool false)) fun v27 =>
ifV v27 (
kv (ldD (.agg 5) v0 h) fun v28 =>
cl (F.space_Space_queue E) [a0, v28, a2] h fun v29 h =>
kv (aExtract v29 0) fun v30 =>
kv (aExtract v29 1) fun v31 =>
K (.tuple #[v30, v31]) h) (
kv (aNil a0) fun v32 =>
kv (fieldAddrD (some 0) v32) fun v33 =>
kv (ldD .one v33 h) fun v34 =>
kv (binD .bad .eql true v34 (.int .i64 3) h) fun v35 =>
kv (gdV v35 true (fieldAddrD (some 0) v0)) fun v36 =>
kv (gdV v35 true (ldD .one v36 h)) fun v37 =>
kv (gdV v35 true (binD .bad .geq true v37 (.int .i64 10) h)) fun v38 =>
kv (pickV v35 v38 (.bool false)) fun v39 =>
kv (gdV v39 true (fieldAddrD (some 0) v0)) fun v40 =>
kv (gdV v39 true (ldD .one v40 h)) fun v41 =>
kv (gdV v39 true (binD .bad .leq true v41 (.int .i64 12) h)) fun v42 =>
kv (pickV v39 v42 (.bool false)) fun v43 =>
ifV v43 (
kv (ldD (.agg 5) v0 h) fun v44 =>
cl (F.space_Space_topic E) [a0, v44] h fun v45 h =>
kv (aExtract v45 0) fun v46 =>
kv (aExtract v45 1) fun v47 =>
K (.tuple #[v46, v47]) h) (
K (.tuple #[(.string ⟨#[]⟩), (.int .i64 1)]) h))))
| _ => False
def F.vault_Vault_does (E : FE) : Spec := fun args h K => match args with
| [a0, a1, a2] =>
kP (newD none a2 h) fun v0 h =>
kv (fieldAddrD (some 1) v0) fun v1 =>
kv (ldD .one v1 h) fun v2 =>
cl (F.vault_Vault_sees E) [a0, a1, v2] h fun v3 h =>
kv (fieldAddrD (some 0) v0) fun v4 =>
kv (ldD .one v4 h) fun v5 =>
kv (binD .bad .eql true v5 (.int .i64 1) h) fun v6 =>
kv (gdV v6 true (some v3)) fun v7 =>
kv (gdV v6 true (binD (.ptr true) .neq true v7 (.pointer none) h)) fun v8 =>
kv (pickV v6 v8 (.bool false)) fun v9 =>
∃ K10 : List V → AHeap → Prop, (
ifV v9 (
K10 [v9] h) (
kv (fieldAddrD (some 0) v0) fun v11 =>
kv (ldD .one v11 h) fun v12 =>
kv (binD .bad .neq true v12 (.int .i64 1) h) fun v13 =>
kv (gdV v13 true (some v3)) fun v14 =>
kv (gdV v13 true (binD (.ptr true) .eql true v14 (.pointer none) h)) fun v15 =>
kv (pickV v13 v15 (.bool false)) fun v16 =>
K10 [v16] h)) ∧ ∀ (e10 : Nat → V) (h : AHeap), K10 [(e10 15)] h →
ifV (e10 15) (
K (.tuple #[(.string ⟨#[]⟩), (.int .i64 3)]) h) (
kv (fieldAddrD (some 0) v0) fun v17 =>
kv (ldD .one v17 h) fun v18 =>
kv (binD .bad .eql true v18 (.int .i64 1) h) fun v19 =>
kv (gdV v19 true (some a0)) fun v20 =>
kv (gdV v19 true (some a1)) fun v21 =>
gdC v19 true h (fun K22 => cl (F.vault_Vault_count E) [v20, v21] h fun v h => K22 v h) fun v23 h =>
kv (gdV v19 true (binD .bad .geq true v23 (.int .i64 16) h)) fun v24 =>
kv (pickV v19 v24 (.bool false)) fun v25 =>
ifV v25 (
K (.tuple #[(.string ⟨#[]⟩), (.int .i64 6)]) h) (
kv (fieldAddrD (some 0) v0) fun v26 =>
kv (ldD .one v26 h) fun v27 =>
kv (binD .bad .eql true v27 (.int .i64 1) h) fun v28 =>
ifV v28 (
kv (fieldAddrD (some 2) v0) fun v29 =>
kv (ldD .one v29 h) fun v30 =>
kv (binD .bad .neq true v30 (.string ⟨#[]⟩) h) fun v31 =>
∃ K32 : List V → AHeap → Prop, (
ifV v31 (
kv (fieldAddrD (some 2) v0) fun v33 =>
kv (ldD .one v33 h) fun v34 =>
kv (indexD .str v34 (.int .i64 0)) fun v35 =>
kv (binD .bad .sub true v35 (.int .u8 48) h) fun v36 =>
kv ((convD (.int .i64) v36 h).map (·.1)) fun v37 =>
K32 [v37] h) (
K32 [(.int .i64 1)] h)) ∧ ∀ (e32 : Nat → V) (h : AHeap), K32 [(e32 9)] h →
kv (aNil a1) fun v38 =>
kv (fieldAddrD (some 3) v38) fun v39 =>
kv (ldD .one v39 h) fun v40 =>
kv (fieldAddrD (some 1) v0) fun v41 =>
kv (ldD .one v41 h) fun v42 =>
kv (fieldAddrD (some 4) v0) fun v43 =>
kv (ldD .one v43 h) fun v44 =>
cl (F.space_New E) [v44, (e32 9)] h fun v45 h =>
ldD .one v39 h = some v40 ∧
ldD .one v41 h = some v42 ∧
kH (mapUpdateD (some (.string, (some (.pointer none)))) v40 v42 v45 h) fun _ h =>
K (.tuple #[(.string ⟨#[]⟩), (.int .i64 0)]) h) (
kv (fieldAddrD (some 0) v0) fun v46 =>
kv (ldD .one v46 h) fun v47 =>
kv (binD .bad .eql true v47 (.int .i64 2) h) fun v48 =>
ifV v48 (
kv (aNil a1) fun v49 =>
kv (fieldAddrD (some 3) v49) fun v50 =>
kv (ldD .one v50 h) fun v51 =>
kv (fieldAddrD (some 1) v0) fun v52 =>
kv (ldD .one v52 h) fun v53 =>
kH (mapUpdateD (some (.string, (some (.pointer none)))) v51 v53 (.pointer none) h) fun _ h =>
K (.tuple #[(.string ⟨#[]⟩), (.int .i64 0)]) h) (
kv (ldD (.agg 5) v0 h) fun v54 =>
kv (aNil a1) fun v55 =>
kv (fieldAddrD (some 2) v55) fun v56 =>
kv (ldD .one v56 h) fun v57 =>
cl (F.space_Space_Do E) [v3, v54, v57] h fun v58 h =>
kv (aExtract v58 0) fun v59 =>
kv (aExtract v58 1) fun v60 =>
K (.tuple #[v59, v60]) h))))
| _ => False
def F.lock_Locks_Has (E : FE) : Spec := fun args h K => match args with
| [a0, a1] =>
kP (newD none a1 h) fun v0 h =>
kv (binD (.ptr true) .eql true a0 (.pointer none) h) fun v1 =>
ifV v1 (
K (.slice none 0 0) h) (
kv (aNil a0) fun v2 =>
kv (fieldAddrD (some 0) v2) fun v3 =>
kv (ldD .one v3 h) fun v4 =>
kP (rangeD .map v4 h) fun v5 h =>
∃ (Inv6 : Nat → List V → AHeap → Prop) (n6 : Nat), Inv6 n6 [(.slice none 0 0)] h ∧ ∀ (n6 : Nat) (e6 : Nat → V) (h : AHeap), Inv6 n6 [(e6 5)] h →
aNext v5 false h fun v7 h =>
kv (aExtract v7 0) fun v8 =>
ifV v8 (
kV (aEntry v5 h) h fun v9 h =>
kv (aExtract v9 0) fun v10 =>
kv (aExtract v9 1) fun v11 =>
kP (newD none (.agg #[(.string ⟨#[]⟩), (.string ⟨#[]⟩), (.bool false)]) h) fun v12 h =>
kP (newD none (.agg #[(.int .i64 0), (.int .i64 0)]) h) fun v13 h =>
kH (stD (some 3) v12 v10 h) fun _ h =>
kH (stD (some 2) v13 v11 h) fun _ h =>
kv (ldD (.agg 2) v13 h) fun v14 =>
kv (ldD (.agg 2) v0 h) fun v15 =>
kv (binD (.struct [(0, .int), (1, .int)]) .eql false v14 v15 h) fun v16 =>
ifV v16 (
kv (ldD (.agg 3) v12 h) fun v17 =>
kP (buildSliceD (some (3, [(.string ⟨#[]⟩), (.string ⟨#[]⟩), (.bool false)])) 1 [(0, v17)] h) fun v18 h =>
kP (appendD (some (3, 40, [(.string ⟨#[]⟩), (.string ⟨#[]⟩), (.bool false)])) (e6 5) v18 h) fun v19 h =>
∃ m, m < n6 ∧ Inv6 m [v19] h) (
∃ m, m < n6 ∧ Inv6 m [(e6 5)] h)) (
cl (F.lock_sorted E) [(e6 5)] h fun v20 h =>
K v20 h))
| _ => False
def F.lock_Locks_Free (E : FE) : Spec := fun args h K => match args with
| [a0, a1] =>
kP (newD none a1 h) fun v0 h =>
kv (ldD (.agg 2) v0 h) fun v1 =>
cl (F.lock_Locks_Has E) [a0, v1] h fun v2 h =>
kv (lenD .slice v2 h) fun v3 =>
∃ (Inv4 : Nat → List V → AHeap → Prop) (n4 : Nat), Inv4 n4 [(.int .i64 0)] h ∧ ∀ (n4 : Nat) (e4 : Nat → V) (h : AHeap), Inv4 n4 [(e4 13)] h →
kv (binD .bad .lss false (e4 13) v3 h) fun v5 =>
ifV v5 (
kv (indexAddrD (.slice 3) v2 (e4 13)) fun v6 =>
kv (ldD (.agg 3) v6 h) fun v7 =>
kP (newD none (.agg #[(.string ⟨#[]⟩), (.string ⟨#[]⟩), (.bool false)]) h) fun v8 h =>
kH (stD (some 3) v8 v7 h) fun _ h =>
kv (aNil a0) fun v9 =>
kv (fieldAddrD (some 0) v9) fun v10 =>
kv (ldD .one v10 h) fun v11 =>
kv (ldD (.agg 3) v8 h) fun v12 =>
kH (deleteD (some ((.struct false [(0, .string), (1, .string), (2, .bool)]), (some (.agg #[(.int .i64 0), (.int .i64 0)])))) v11 v12 h) fun _ h =>
kv (binD .bad .add true (e4 13) (.int .i64 1) h) fun v13 =>
∃ m, m < n4 ∧ Inv4 m [v13] h) (
kv (lenD .slice v2 h) fun v14 =>
K v14 h)
| _ => False
def F.vault_Vault_Prepare (E : FE) : Spec := fun args h K => match args with
| [a0, a1, a2, a3] =>
kP (newD none a1 h) fun v0 h =>
kv (binD (.ptr true) .eql true a0 (.pointer none) h) fun v1 =>
kv (gdV v1 false (some a0)) fun v2 =>
kv (gdV v1 false (aNil v2)) fun v3 =>
kv (gdV v1 false (fieldAddrD (some 3) v3)) fun v4 =>
kv (gdV v1 false (ldD .one v4 h)) fun v5 =>
kv (gdV v1 false (ldD (.agg 2) v0 h)) fun v6 =>
gdC v1 false h (fun K7 => cl (F.name_Ids_Has E) [v5, v6] h fun v h => K7 v h) fun v8 h =>
kv (pickV v1 (.bool true) v8) fun v9 =>
kv (gdV v9 false (some a2)) fun v10 =>
gdC v9 false h (fun K11 => cl (F.op_All E) [v10] h fun v h => K11 v h) fun v12 h =>
kv (gdV v9 false (aUn .not v12)) fun v13 =>
kv (pickV v9 (.bool true) v13) fun v14 =>
ifV v14 (
K (.tuple #[(.slice none 0 0), (.bool false)]) h) (
kv (aNil a0) fun v15 =>
kv (fieldAddrD (some 2) v15) fun v16 =>
kv (ldD .one v16 h) fun v17 =>
kv (ldD (.agg 2) v0 h) fun v18 =>
kv (lookupD (some ((.struct false [(0, .int), (1, .int)]), (some (.pointer none)))) v17 v18 false h) fun v19 =>
kv (binD (.ptr true) .neq true v19 (.pointer none) h) fun v20 =>
ifV v20 (
kv (aNil v19) fun v21 =>
kv (fieldAddrD (some 1) v21) fun v22 =>
kv (ldD .one v22 h) fun v23 =>
cl (F.slices_Clone_Sstring_string E) [v23] h fun v24 h =>
K (.tuple #[v24, (.bool true)]) h) (
kv (aNil a0) fun v25 =>
kv (fieldAddrD (some 1) v25) fun v26 =>
kv (ldD .one v26 h) fun v27 =>
kv (ldD (.agg 2) v0 h) fun v28 =>
cl (F.lock_Of E) [a2] h fun v29 h =>
ldD .one v26 h = some v27 ∧
ldD (.agg 2) v0 h = some v28 ∧
cl (F.lock_Locks_Take E) [v27, v28, v29] h fun v30 h =>
kv (aUn .not v30) fun v31 =>
ifV v31 (
K (.tuple #[(.slice none 0 0), (.bool false)]) h) (
cl (F.slices_Clone_Sapi_Op_api_Op E) [a2] h fun v32 h =>
kP (makeMapD true none h) fun v33 h =>
kv (buildD (.struct [(.slice none 0 0), (.slice none 0 0), (.int .i64 0), (.map none)] [(0, 1), (1, 1), (2, 1), (3, 1)]) [(0, v32), (2, a3), (3, v33)]) fun v34 =>
kP (newD none v34 h) fun v35 h =>
kv (lenD .slice a2 h) fun v36 =>
∃ (Inv37 : Nat → List V → AHeap → Prop) (n37 : Nat), Inv37 n37 [(.int .i64 0)] h ∧ ∀ (n37 : Nat) (e37 : Nat → V) (h : AHeap), Inv37 n37 [(e37 61)] h →
kv (binD .bad .lss false (e37 61) v36 h) fun v38 =>
ifV v38 (
kv (indexAddrD (.slice 5) a2 (e37 61)) fun v39 =>
kv (ldD (.agg 5) v39 h) fun v40 =>
kP (newD none (.agg #[(.int .i64 0), (.string ⟨#[]⟩), (.string ⟨#[]⟩), (.string ⟨#[]⟩), (.int .i64 0)]) h) fun v41 h =>
kH (stD (some 5) v41 v40 h) fun _ h =>
kv (ldD (.agg 5) v41 h) fun v42 =>
cl (F.vault_Vault_does E) [a0, v35, v42] h fun v43 h =>
kv (aExtract v43 0) fun v44 =>
kv (aExtract v43 1) fun v45 =>
kv (binD .bad .neq true v45 (.int .i64 0) h) fun v46 =>
ifV v46 (
kv (aNil a0) fun v47 =>
kv (fieldAddrD (some 1) v47) fun v48 =>
kv (ldD .one v48 h) fun v49 =>
kv (ldD (.agg 2) v0 h) fun v50 =>
cl (F.lock_Locks_Free E) [v49, v50] h fun v51 h =>
K (.tuple #[(.slice none 0 0), (.bool false)]) h) (
kv (aNil v35) fun v52 =>
kv (fieldAddrD (some 1) v52) fun v53 =>
kv (ldD .one v53 h) fun v54 =>
kP (buildSliceD (some (1, [(.string ⟨#[]⟩)])) 1 [(0, v44)] h) fun v55 h =>
kP (appendD (some (1, 16, [(.string ⟨#[]⟩)])) v54 v55 h) fun v56 h =>
kv (aNil v35) fun v57 =>
kv (fieldAddrD (some 1) v57) fun v58 =>
kH (stD (some 1) v58 v56 h) fun _ h =>
kv (binD .bad .add true (e37 61) (.int .i64 1) h) fun v59 =>
∃ m, m < n37 ∧ Inv37 m [v59] h)) (
kv (aNil a0) fun v60 =>
kv (fieldAddrD (some 2) v60) fun v61 =>
kv (ldD .one v61 h) fun v62 =>
kv (ldD (.agg 2) v0 h) fun v63 =>
kH (mapUpdateD (some ((.struct false [(0, .int), (1, .int)]), (some (.pointer none)))) v62 v63 v35 h) fun _ h =>
kv (aNil v35) fun v64 =>
kv (fieldAddrD (some 1) v64) fun v65 =>
kv (ldD .one v65 h) fun v66 =>
cl (F.slices_Clone_Sstring_string E) [v66] h fun v67 h =>
K (.tuple #[v67, (.bool true)]) h))))
| _ => False
def F.vault_Vault_At (E : FE) : Spec := fun args h K => match args with
| [a0, a1] =>
kP (newD none a1 h) fun v0 h =>
kv (binD (.ptr true) .eql true a0 (.pointer none) h) fun v1 =>
kv (gdV v1 false (some a0)) fun v2 =>
kv (gdV v1 false (aNil v2)) fun v3 =>
kv (gdV v1 false (fieldAddrD (some 2) v3)) fun v4 =>
kv (gdV v1 false (ldD .one v4 h)) fun v5 =>
kv (gdV v1 false (ldD (.agg 2) v0 h)) fun v6 =>
kv (gdV v1 false (lookupD (some ((.struct false [(0, .int), (1, .int)]), (some (.pointer none)))) v5 v6 false h)) fun v7 =>
kv (gdV v1 false (binD (.ptr true) .eql true v7 (.pointer none) h)) fun v8 =>
kv (pickV v1 (.bool true) v8) fun v9 =>
ifV v9 (
K (.int .i64 0) h) (
kv (aNil a0) fun v10 =>
kv (fieldAddrD (some 2) v10) fun v11 =>
kv (ldD .one v11 h) fun v12 =>
kv (ldD (.agg 2) v0 h) fun v13 =>
kv (lookupD (some ((.struct false [(0, .int), (1, .int)]), (some (.pointer none)))) v12 v13 false h) fun v14 =>
kv (aNil v14) fun v15 =>
kv (fieldAddrD (some 2) v15) fun v16 =>
kv (ldD .one v16 h) fun v17 =>
K v17 h)
| _ => False
def F.slices_IndexFunc_Sstring_string (E : FE) : Spec := fun args h K => match args with
| [a0, a1] =>
kv (lenD .slice a0 h) fun v0 =>
∃ (Inv1 : Nat → List V → AHeap → Prop) (n1 : Nat), Inv1 n1 [(.int .i64 0)] h ∧ ∀ (n1 : Nat) (e1 : Nat → V) (h : AHeap), Inv1 n1 [(e1 8)] h →
kv (binD .bad .lss false (e1 8) v0 h) fun v2 =>
ifV v2 (
kv (indexAddrD (.slice 1) a0 (e1 8)) fun v3 =>
kv (ldD .one v3 h) fun v4 =>
aCall E.I a1 [v4] h fun v5 h =>
ifV v5 (
K (e1 8) h) (
kv (binD .bad .add true (e1 8) (.int .i64 1) h) fun v6 =>
∃ m, m < n1 ∧ Inv1 m [v6] h)) (
K (.int .i64 (-1)) h)
| _ => False
def F.slices_ContainsFunc_Sstring_string (E : FE) : Spec := fun args h K => match args with
| [a0, a1] =>
cl (F.slices_IndexFunc_Sstring_string E) [a0, a1] h fun v0 h =>
kv (binD .bad .geq true v0 (.int .i64 0) h) fun v1 =>
K v1 h
| _ => False
def F.op_Vote (E : FE) : Spec := fun args h K => match args with
| [a0] =>
kP (newD none a0 h) fun v0 h =>
kP (newD none (.agg #[(.int .i64 0), (.slice none 0 0), (.slice none 0 0)]) h) fun v1 h =>
kv (fieldAddrD (some 0) v0) fun v2 =>
kv (ldD (.agg 2) v2 h) fun v3 =>
cl (F.op_Client E) [v3] h fun v4 h =>
kv (aUn .not v4) fun v5 =>
kv (gdV v5 false (fieldAddrD (some 2) v0)) fun v6 =>
kv (gdV v5 false (ldD .one v6 h)) fun v7 =>
kv (gdV v5 false (binD .bad .lss true v7 (.int .i64 0) h)) fun v8 =>
kv (pickV v5 (.bool true) v8) fun v9 =>
kv (gdV v9 false (fieldAddrD (some 2) v0)) fun v10 =>
kv (gdV v9 false (ldD .one v10 h)) fun v11 =>
kv (gdV v9 false (binD .bad .geq true v11 (.int .i64 3) h)) fun v12 =>
kv (pickV v9 (.bool true) v12) fun v13 =>
kv (gdV v13 false (fieldAddrD (some 4) v0)) fun v14 =>
kv (gdV v13 false (ldD .one v14 h)) fun v15 =>
kv (gdV v13 false (binD .bad .lss true v15 (.int .i64 0) h)) fun v16 =>
kv (pickV v13 (.bool true) v16) fun v17 =>
kv (gdV v17 false (fieldAddrD (some 4) v0)) fun v18 =>
kv (gdV v17 false (ldD .one v18 h)) fun v19 =>
kv (gdV v17 false (binD .bad .gtr true v19 (.int .i64 1099511627776) h)) fun v20 =>
kv (pickV v17 (.bool true) v20) fun v21 =>
kv (gdV v21 false (fieldAddrD (some 5) v0)) fun v22 =>
kv (gdV v21 false (ldD .one v22 h)) fun v23 =>
kv (gdV v21 false (lenD .slice v23 h)) fun v24 =>
kv (gdV v21 false (binD .bad .gtr true v24 (.int .i64 8) h)) fun v25 =>
kv (pickV v21 (.bool true) v25) fun v26 =>
kv (gdV v26 false (fieldAddrD (some 3) v0)) fun v27 =>
kv (gdV v26 false (ldD .one v27 h)) fun v28 =>
kv (gdV v26 false (aUn .not v28)) fun v29 =>
kv (gdV v26 false (some v29)) fun v30 =>
kv (gdV v30 true (fieldAddrD (some 5) v0)) fun v31 =>
kv (gdV v30 true (ldD .one v31 h)) fun v32 =>
kv (gdV v30 true (lenD .slice v32 h)) fun v33 =>
kv (gdV v30 true (binD .bad .gtr true v33 (.int .i64 0) h)) fun v34 =>
kv (gdV v26 false (pickV v30 v34 (.bool false))) fun v35 =>
kv (pickV v26 (.bool true) v35) fun v36 =>
kv (gdV v36 false (fieldAddrD (some 5) v0)) fun v37 =>
kv (gdV v36 false (ldD .one v37 h)) fun v38 =>
kv (gdV v36 false (some (.func (.func (E.k 19)) #[] #[]))) fun v39 =>
gdC v36 false h (fun K40 => cl (F.slices_ContainsFunc_Sstring_string E) [v38, v39] h fun v h => K40 v h) fun v41 h =>
kv (pickV v36 (.bool true) v41) fun v42 =>
ifV v42 (
kv (buildD (.struct [(.int .i64 0), (.slice none 0 0), (.slice none 0 0)] [(0, 1), (1, 1), (2, 1)]) []) fun v43 =>
kH (stD (some 3) v1 v43 h) fun _ h =>
kv (ldD (.agg 3) v1 h) fun r44 =>
K (.tuple #[r44, (.bool false)]) h) (
kv (fieldAddrD (some 0) v0) fun v45 =>
kv (fieldAddrD (some 0) v45) fun v46 =>
kv (ldD .one v46 h) fun v47 =>
kv (fieldAddrD (some 0) v0) fun v48 =>
kv (fieldAddrD (some 1) v48) fun v49 =>
kv (ldD .one v49 h) fun v50 =>
kv (fieldAddrD (some 2) v0) fun v51 =>
kv (ldD .one v51 h) fun v52 =>
kv (fieldAddrD (some 3) v0) fun v53 =>
kv (ldD .one v53 h) fun v54 =>
kv (fieldAddrD (some 4) v0) fun v55 =>
kv (ldD .one v55 h) fun v56 =>
kv (fieldAddrD (some 5) v0) fun v57 =>
kv (ldD .one v57 h) fun v58 =>
cl (F.op_bit E) [v54] h fun v59 h =>
ldD .one v46 h = some v47 ∧
ldD .one v49 h = some v50 ∧
ldD .one v51 h = some v52 ∧
ldD .one v55 h = some v56 ∧
ldD .one v57 h = some v58 ∧
(kP (buildSliceD (some (1, [(.int .i64 0)])) 5 [(0, v47), (1, v50), (2, v52), (3, v59), (4, v56)] h) fun v60 h =>
ldD .one v57 h = some v58 ∧
cl (F.slices_Clone_Sstring_string E) [v58] h fun v61 h =>
ldD .one v46 h = some v47 ∧
ldD .one v49 h = some v50 ∧
ldD .one v51 h = some v52 ∧
ldD .one v55 h = some v56 ∧
kv (buildD (.struct [(.int .i64 0), (.slice none 0 0), (.slice none 0 0)] [(0, 1), (1, 1), (2, 1)]) [(0, (.int .i64 5)), (1, v60), (2, v61)]) fun v62 =>
kH (stD (some 3) v1 v62 h) fun _ h =>
kv (ldD (.agg 3) v1 h) fun r63 =>
K (.tuple #[r63, (.bool true)]) h) ∧
(cl (F.slices_Clone_Sstring_string E) [v58] h fun v64 h =>
ldD .one v46 h = some v47 ∧
ldD .one v49 h = some v50 ∧
ldD .one v51 h = some v52 ∧
ldD .one v55 h = some v56 ∧
kP (buildSliceD (some (1, [(.int .i64 0)])) 5 [(0, v47), (1, v50), (2, v52), (3, v59), (4, v56)] h) fun v65 h =>
ldD .one v57 h = some v58 ∧
kv (buildD (.struct [(.int .i64 0), (.slice none 0 0), (.slice none 0 0)] [(0, 1), (1, 1), (2, 1)]) [(0, (.int .i64 5)), (1, v65), (2, v64)]) fun v66 =>
kH (stD (some 3) v1 v66 h) fun _ h =>
kv (ldD (.agg 3) v1 h) fun r67 =>
K (.tuple #[r67, (.bool true)]) h))
| _ => False
def F.shard_Shard_word (E : FE) : Spec := fun args h K => match args with
| [a0, a1, a2, a3] =>
kP (newD none a1 h) fun v0 h =>
kP (newD none a2 h) fun v1 h =>
kv (aUn .not a3) fun v2 =>
ifV v2 (
K (.slice none 0 0) h) (
kv (fieldAddrD (some 0) v0) fun v3 =>
kv (ldD .one v3 h) fun v4 =>
kv (aNil a0) fun v5 =>
kv (fieldAddrD (some 1) v5) fun v6 =>
kv (ldD .one v6 h) fun v7 =>
kv (ldD (.agg 3) v1 h) fun v8 =>
cl (F.name_Coord E) [v4, v7] h fun v9 h =>
ldD (.agg 3) v1 h = some v8 ∧
kv (buildD (.struct [(.int .i64 0), (.int .i64 0), (.slice none 0 0), (.slice none 0 0)] [(0, 1), (1, 3)]) [(0, v9), (1, v8)]) fun v10 =>
kP (buildSliceD (some (4, [(.int .i64 0), (.int .i64 0), (.slice none 0 0), (.slice none 0 0)])) 1 [(0, v10)] h) fun v11 h =>
K v11 h)
| _ => False
def F.shard_Shard_prepares (E : FE) : Spec := fun args h K => match args with
| [a0, a1] =>
kP (newD none a0 h) fun v0 h =>
kP (newD none a1 h) fun v1 h =>
kv (ldD (.agg 3) v1 h) fun v2 =>
cl (F.op_Get E) [v2] h fun v3 h =>
kv (aExtract v3 0) fun v4 =>
kv (aExtract v3 1) fun v5 =>
kv (aExtract v3 2) fun v6 =>
kP (newD none (.agg #[(.int .i64 0), (.int .i64 0)]) h) fun v7 h =>
kH (stD (some 2) v7 v4 h) fun _ h =>
kv (aUn .not v6) fun v8 =>
kv (gdV v8 false (some v5)) fun v9 =>
kv (gdV v8 false (some (.func (.func (E.k 17)) #[] #[v0]))) fun v10 =>
gdC v8 false h (fun K11 => cl (F.slices_ContainsFunc_Sapi_Op_api_Op E) [v9, v10] h fun v h => K11 v h) fun v12 h =>
kv (pickV v8 (.bool true) v12) fun v13 =>
kv (gdV v13 false (ldD .one v0 h)) fun v14 =>
kv (gdV v13 false (aNil v14)) fun v15 =>
kv (gdV v13 false (fieldAddrD (some 3) v15)) fun v16 =>
kv (gdV v13 false (ldD .one v16 h)) fun v17 =>
kv (gdV v13 false (ldD (.agg 2) v7 h)) fun v18 =>
gdC v13 false h (fun K19 => cl (F.vault_Vault_Over E) [v17, v18] h fun v h => K19 v h) fun v20 h =>
kv (pickV v13 (.bool true) v20) fun v21 =>
ifV v21 (
K (.slice none 0 0) h) (
kv (ldD .one v0 h) fun v22 =>
kv (aNil v22) fun v23 =>
kv (fieldAddrD (some 3) v23) fun v24 =>
kv (ldD .one v24 h) fun v25 =>
kv (ldD (.agg 2) v7 h) fun v26 =>
kv (ldD .one v0 h) fun v27 =>
kv (aNil v27) fun v28 =>
kv (fieldAddrD (some 2) v28) fun v29 =>
kv (ldD .one v29 h) fun v30 =>
cl (F.vault_Vault_Prepare E) [v25, v26, v5, v30] h fun v31 h =>
kv (aExtract v31 0) fun v32 =>
kv (aExtract v31 1) fun v33 =>
kv (ldD (.agg 2) v7 h) fun v34 =>
kv (ldD .one v0 h) fun v35 =>
kv (aNil v35) fun v36 =>
kv (fieldAddrD (some 0) v36) fun v37 =>
kv (ldD .one v37 h) fun v38 =>
kv (ldD .one v0 h) fun v39 =>
kv (aNil v39) fun v40 =>
kv (fieldAddrD (some 2) v40) fun v41 =>
kv (ldD .one v41 h) fun v42 =>
kv (buildD (.struct [(.int .i64 0), (.int .i64 0), (.int .i64 0), (.bool false), (.int .i64 0), (.slice none 0 0)] [(0, 2), (2, 1), (3, 1), (4, 1), (5, 1)]) [(0, v34), (1, v38), (2, v33), (3, v42), (4, v32)]) fun v43 =>
kP (newD none (.agg #[(.int .i64 0), (.int .i64 0), (.int .i64 0), (.bool false), (.int .i64 0), (.slice none 0 0)]) h) fun v44 h =>
ldD (.agg 2) v7 h = some v34 ∧
ldD .one v0 h = some v35 ∧
ldD .one v37 h = some v38 ∧
ldD .one v0 h = some v39 ∧
ldD .one v41 h = some v42 ∧
kH (stD (some 6) v44 v43 h) fun _ h =>
∃ K45 : List V → AHeap → Prop, (
ifV v33 (
kv (ldD .one v0 h) fun v46 =>
kv (aNil v46) fun v47 =>
kv (fieldAddrD (some 3) v47) fun v48 =>
kv (ldD .one v48 h) fun v49 =>
kv (ldD (.agg 2) v7 h) fun v50 =>
cl (F.vault_Vault_At E) [v49, v50] h fun v51 h =>
kv (fieldAddrD (some 4) v44) fun v52 =>
kH (stD (some 1) v52 v51 h) fun _ h =>
K45 [] h) (
K45 [] h)) ∧ ∀ (e45 : Nat → V) (h : AHeap), K45 [] h →
kv (ldD (.agg 6) v44 h) fun v53 =>
cl (F.op_Vote E) [v53] h fun v54 h =>
kv (aExtract v54 0) fun v55 =>
kv (aExtract v54 1) fun v56 =>
kP (newD none (.agg #[(.int .i64 0), (.slice none 0 0), (.slice none 0 0)]) h) fun v57 h =>
kH (stD (some 3) v57 v55 h) fun _ h =>
kv (ldD .one v0 h) fun v58 =>
kv (ldD (.agg 2) v7 h) fun v59 =>
kv (ldD (.agg 3) v57 h) fun v60 =>
cl (F.shard_Shard_word E) [v58, v59, v60, v56] h fun v61 h =>
K v61 h)
| _ => False
def F.op_GetVote (E : FE) : Spec := fun args h K => match args with
| [a0] =>
kP (newD none a0 h) fun v0 h =>
kP (newD none (.agg #[(.int .i64 0), (.int .i64 0), (.int .i64 0), (.bool false), (.int .i64 0), (.slice none 0 0)]) h) fun v1 h =>
kv (fieldAddrD (some 1) v0) fun v2 =>
kv (ldD .one v2 h) fun v3 =>
kv (lenD .slice v3 h) fun v4 =>
kv (binD .bad .neq true v4 (.int .i64 5) h) fun v5 =>
ifV v5 (
kv (buildD (.struct [(.int .i64 0), (.int .i64 0), (.int .i64 0), (.bool false), (.int .i64 0), (.slice none 0 0)] [(0, 2), (2, 1), (3, 1), (4, 1), (5, 1)]) []) fun v6 =>
kH (stD (some 6) v1 v6 h) fun _ h =>
kv (ldD (.agg 6) v1 h) fun r7 =>
K (.tuple #[r7, (.bool false)]) h) (
kv (fieldAddrD (some 1) v0) fun v8 =>
kv (ldD .one v8 h) fun v9 =>
kv (indexAddrD (.slice 1) v9 (.int .i64 0)) fun v10 =>
kv (ldD .one v10 h) fun v11 =>
kv (fieldAddrD (some 1) v0) fun v12 =>
kv (ldD .one v12 h) fun v13 =>
kv (indexAddrD (.slice 1) v13 (.int .i64 1)) fun v14 =>
kv (ldD .one v14 h) fun v15 =>
kv (buildD (.struct [(.int .i64 0), (.int .i64 0)] [(0, 1), (1, 1)]) [(0, v11), (1, v15)]) fun v16 =>
kv (fieldAddrD (some 1) v0) fun v17 =>
kv (ldD .one v17 h) fun v18 =>
kv (indexAddrD (.slice 1) v18 (.int .i64 2)) fun v19 =>
kv (ldD .one v19 h) fun v20 =>
kv (fieldAddrD (some 1) v0) fun v21 =>
kv (ldD .one v21 h) fun v22 =>
kv (indexAddrD (.slice 1) v22 (.int .i64 3)) fun v23 =>
kv (ldD .one v23 h) fun v24 =>
kv (binD .bad .eql true v24 (.int .i64 1) h) fun v25 =>
kv (fieldAddrD (some 1) v0) fun v26 =>
kv (ldD .one v26 h) fun v27 =>
kv (indexAddrD (.slice 1) v27 (.int .i64 4)) fun v28 =>
kv (ldD .one v28 h) fun v29 =>
kv (fieldAddrD (some 2) v0) fun v30 =>
kv (ldD .one v30 h) fun v31 =>
(cl (F.slices_Clone_Sstring_string E) [v31] h fun v32 h =>
ldD .one v8 h = some v9 ∧
ldD .one v10 h = some v11 ∧
ldD .one v12 h = some v13 ∧
ldD .one v14 h = some v15 ∧
ldD .one v17 h = some v18 ∧
ldD .one v19 h = some v20 ∧
ldD .one v21 h = some v22 ∧
ldD .one v23 h = some v24 ∧
ldD .one v26 h = some v27 ∧
ldD .one v28 h = some v29 ∧
kv (buildD (.struct [(.int .i64 0), (.int .i64 0), (.int .i64 0), (.bool false), (.int .i64 0), (.slice none 0 0)] [(0, 2), (2, 1), (3, 1), (4, 1), (5, 1)]) [(0, v16), (1, v20), (2, v25), (3, v29), (4, v32)]) fun v33 =>
kP (newD none (.agg #[(.int .i64 0), (.int .i64 0), (.int .i64 0), (.bool false), (.int .i64 0), (.slice none 0 0)]) h) fun v34 h =>
ldD .one v8 h = some v9 ∧
ldD .one v10 h = some v11 ∧
ldD .one v12 h = some v13 ∧
ldD .one v14 h = some v15 ∧
ldD .one v17 h = some v18 ∧
ldD .one v19 h = some v20 ∧
ldD .one v21 h = some v22 ∧
ldD .one v23 h = some v24 ∧
ldD .one v26 h = some v27 ∧
ldD .one v28 h = some v29 ∧
ldD .one v30 h = some v31 ∧
kH (stD (some 6) v34 v33 h) fun _ h =>
kv (ldD (.agg 6) v34 h) fun v35 =>
cl (F.op_Vote E) [v35] h fun v36 h =>
kv (aExtract v36 0) fun v37 =>
kv (aExtract v36 1) fun v38 =>
kP (newD none (.agg #[(.int .i64 0), (.slice none 0 0), (.slice none 0 0)]) h) fun v39 h =>
kH (stD (some 3) v39 v37 h) fun _ h =>
kv (aUn .not v38) fun v40 =>
kv (gdV v40 false (ldD (.agg 3) v39 h)) fun v41 =>
kv (gdV v40 false (ldD (.agg 3) v0 h)) fun v42 =>
gdC v40 false h (fun K43 => cl (F.rec_Eq E) [v41, v42] h fun v h => K43 v h) fun v44 h =>
kv (gdV v40 false (aUn .not v44)) fun v45 =>
kv (pickV v40 (.bool true) v45) fun v46 =>
ifV v46 (
kv (buildD (.struct [(.int .i64 0), (.int .i64 0), (.int .i64 0), (.bool false), (.int .i64 0), (.slice none 0 0)] [(0, 2), (2, 1), (3, 1), (4, 1), (5, 1)]) []) fun v47 =>
kH (stD (some 6) v1 v47 h) fun _ h =>
kv (ldD (.agg 6) v1 h) fun r48 =>
K (.tuple #[r48, (.bool false)]) h) (
kv (ldD (.agg 6) v34 h) fun v49 =>
kH (stD (some 6) v1 v49 h) fun _ h =>
kv (ldD (.agg 6) v1 h) fun r50 =>
K (.tuple #[r50, (.bool true)]) h)) ∧
(kP (newD none (.agg #[(.int .i64 0), (.int .i64 0), (.int .i64 0), (.bool false), (.int .i64 0), (.slice none 0 0)]) h) fun v51 h =>
ldD .one v8 h = some v9 ∧
ldD .one v10 h = some v11 ∧
ldD .one v12 h = some v13 ∧
ldD .one v14 h = some v15 ∧
ldD .one v17 h = some v18 ∧
ldD .one v19 h = some v20 ∧
ldD .one v21 h = some v22 ∧
ldD .one v23 h = some v24 ∧
ldD .one v26 h = some v27 ∧
ldD .one v28 h = some v29 ∧
ldD .one v30 h = some v31 ∧
cl (F.slices_Clone_Sstring_string E) [v31] h fun v52 h =>
ldD .one v8 h = some v9 ∧
ldD .one v10 h = some v11 ∧
ldD .one v12 h = some v13 ∧
ldD .one v14 h = some v15 ∧
ldD .one v17 h = some v18 ∧
ldD .one v19 h = some v20 ∧
ldD .one v21 h = some v22 ∧
ldD .one v23 h = some v24 ∧
ldD .one v26 h = some v27 ∧
ldD .one v28 h = some v29 ∧
kv (buildD (.struct [(.int .i64 0), (.int .i64 0), (.int .i64 0), (.bool false), (.int .i64 0), (.slice none 0 0)] [(0, 2), (2, 1), (3, 1), (4, 1), (5, 1)]) [(0, v16), (1, v20), (2, v25), (3, v29), (4, v52)]) fun v53 =>
kH (stD (some 6) v51 v53 h) fun _ h =>
kv (ldD (.agg 6) v51 h) fun v54 =>
cl (F.op_Vote E) [v54] h fun v55 h =>
kv (aExtract v55 0) fun v56 =>
kv (aExtract v55 1) fun v57 =>
kP (newD none (.agg #[(.int .i64 0), (.slice none 0 0), (.slice none 0 0)]) h) fun v58 h =>
kH (stD (some 3) v58 v56 h) fun _ h =>
kv (aUn .not v57) fun v59 =>
kv (gdV v59 false (ldD (.agg 3) v58 h)) fun v60 =>
kv (gdV v59 false (ldD (.agg 3) v0 h)) fun v61 =>
gdC v59 false h (fun K62 => cl (F.rec_Eq E) [v60, v61] h fun v h => K62 v h) fun v63 h =>
kv (gdV v59 false (aUn .not v63)) fun v64 =>
kv (pickV v59 (.bool true) v64) fun v65 =>
ifV v65 (
kv (buildD (.struct [(.int .i64 0), (.int .i64 0), (.int .i64 0), (.bool false), (.int .i64 0), (.slice none 0 0)] [(0, 2), (2, 1), (3, 1), (4, 1), (5, 1)]) []) fun v66 =>
kH (stD (some 6) v1 v66 h) fun _ h =>
kv (ldD (.agg 6) v1 h) fun r67 =>
K (.tuple #[r67, (.bool false)]) h) (
kv (ldD (.agg 6) v51 h) fun v68 =>
kH (stD (some 6) v1 v68 h) fun _ h =>
kv (ldD (.agg 6) v1 h) fun r69 =>
K (.tuple #[r69, (.bool true)]) h)))
| _ => False
def F.shard_Shard_votes (E : FE) : Spec := fun args h K => match args with
| [a0, a1] =>
kP (newD none a1 h) fun v0 h =>
kv (ldD (.agg 3) v0 h) fun v1 =>
cl (F.op_GetVote E) [v1] h fun v2 h =>
kv (aExtract v2 0) fun v3 =>
kv (aExtract v2 1) fun v4 =>
kP (newD none (.agg #[(.int .i64 0), (.int .i64 0), (.int .i64 0), (.bool false), (.int .i64 0), (.slice none 0 0)]) h) fun v5 h =>
kH (stD (some 6) v5 v3 h) fun _ h =>
kv (aUn .not v4) fun v6 =>
kv (gdV v6 false (some a0)) fun v7 =>
kv (gdV v6 false (fieldAddrD (some 0) v5)) fun v8 =>
kv (gdV v6 false (ldD (.agg 2) v8 h)) fun v9 =>
gdC v6 false h (fun K10 => cl (F.shard_Shard_mine E) [v7, v9] h fun v h => K10 v h) fun v11 h =>
kv (gdV v6 false (aUn .not v11)) fun v12 =>
kv (pickV v6 (.bool true) v12) fun v13 =>
kv (gdV v13 false (some a0)) fun v14 =>
kv (gdV v13 false (aNil v14)) fun v15 =>
kv (gdV v13 false (fieldAddrD (some 4) v15)) fun v16 =>
kv (gdV v13 false (ldD .one v16 h)) fun v17 =>
kv (gdV v13 false (ldD (.agg 6) v5 h)) fun v18 =>
gdC v13 false h (fun K19 => cl (F.desk_Desk_Vote E) [v17, v18] h fun v h => K19 v h) fun v20 h =>
kv (gdV v13 false (aUn .not v20)) fun v21 =>
kv (pickV v13 (.bool true) v21) fun v22 =>
ifV v22 (
K (.tuple #[(.slice none 0 0), (.slice none 0 0)]) h) (
kv (aNil a0) fun v23 =>
kv (fieldAddrD (some 4) v23) fun v24 =>
kv (ldD .one v24 h) fun v25 =>
kv (fieldAddrD (some 0) v5) fun v26 =>
kv (ldD (.agg 2) v26 h) fun v27 =>
cl (F.desk_Desk_Nows E) [v25, v27] h fun v28 h =>
kv (binD .slice .neq true v28 (.slice none 0 0) h) fun v29 =>
∃ K30 : List V → AHeap → Prop, (
ifV v29 (
kv (fieldAddrD (some 0) v5) fun v31 =>
kv (ldD (.agg 2) v31 h) fun v32 =>
kP (buildSliceD (some (2, [(.int .i64 0), (.int .i64 0)])) 1 [(0, v32)] h) fun v33 h =>
kP (appendD (some (2, 16, [(.int .i64 0), (.int .i64 0)])) (.slice none 0 0) v33 h) fun v34 h =>
K30 [v34] h) (
K30 [(.slice none 0 0)] h)) ∧ ∀ (e30 : Nat → V) (h : AHeap), K30 [(e30 8)] h →
kv (fieldAddrD (some 0) v5) fun v35 =>
kv (ldD (.agg 2) v35 h) fun v36 =>
cl (F.shard_Shard_of E) [a0, v36] h fun v37 h =>
K (.tuple #[v37, (e30 8)]) h)
| _ => False
def F.op_GetWord (E : FE) : Spec := fun args h K => match args with
| [a0] =>
kP (newD none a0 h) fun v0 h =>
kP (newD none (.agg #[(.int .i64 0), (.int .i64 0)]) h) fun v1 h =>
kv (fieldAddrD (some 1) v0) fun v2 =>
kv (ldD .one v2 h) fun v3 =>
kv (lenD .slice v3 h) fun v4 =>
kv (binD .bad .neq true v4 (.int .i64 4) h) fun v5 =>
ifV v5 (
kv (buildD (.struct [(.int .i64 0), (.int .i64 0)] [(0, 1), (1, 1)]) []) fun v6 =>
kH (stD (some 2) v1 v6 h) fun _ h =>
kv (ldD (.agg 2) v1 h) fun r7 =>
K (.tuple #[r7, (.int .i64 0), (.bool false), (.bool false)]) h) (
kv (fieldAddrD (some 1) v0) fun v8 =>
kv (ldD .one v8 h) fun v9 =>
kv (indexAddrD (.slice 1) v9 (.int .i64 0)) fun v10 =>
kv (ldD .one v10 h) fun v11 =>
kv (fieldAddrD (some 1) v0) fun v12 =>
kv (ldD .one v12 h) fun v13 =>
kv (indexAddrD (.slice 1) v13 (.int .i64 1)) fun v14 =>
kv (ldD .one v14 h) fun v15 =>
kv (buildD (.struct [(.int .i64 0), (.int .i64 0)] [(0, 1), (1, 1)]) [(0, v11), (1, v15)]) fun v16 =>
kv (fieldAddrD (some 1) v0) fun v17 =>
kv (ldD .one v17 h) fun v18 =>
kv (indexAddrD (.slice 1) v18 (.int .i64 2)) fun v19 =>
kv (ldD .one v19 h) fun v20 =>
kv (fieldAddrD (some 1) v0) fun v21 =>
kv (ldD .one v21 h) fun v22 =>
kv (indexAddrD (.slice 1) v22 (.int .i64 3)) fun v23 =>
kv (ldD .one v23 h) fun v24 =>
kv (binD .bad .eql true v24 (.int .i64 1) h) fun v25 =>
kP (newD none (.agg #[(.int .i64 0), (.int .i64 0)]) h) fun v26 h =>
ldD .one v8 h = some v9 ∧
ldD .one v10 h = some v11 ∧
ldD .one v12 h = some v13 ∧
ldD .one v14 h = some v15 ∧
ldD .one v17 h = some v18 ∧
ldD .one v19 h = some v20 ∧
ldD .one v21 h = some v22 ∧
ldD .one v23 h = some v24 ∧
kH (stD (some 2) v26 v16 h) fun _ h =>
ldD .one v17 h = some v18 ∧
ldD .one v19 h = some v20 ∧
ldD .one v21 h = some v22 ∧
ldD .one v23 h = some v24 ∧
kv (fieldAddrD (some 0) v0) fun v27 =>
kv (ldD .one v27 h) fun v28 =>
kv (ldD (.agg 2) v26 h) fun v29 =>
cl (F.op_Word E) [v28, v29, v20, v25] h fun v30 h =>
kv (aExtract v30 0) fun v31 =>
kv (aExtract v30 1) fun v32 =>
kP (newD none (.agg #[(.int .i64 0), (.slice none 0 0), (.slice none 0 0)]) h) fun v33 h =>
kH (stD (some 3) v33 v31 h) fun _ h =>
kv (aUn .not v32) fun v34 =>
kv (gdV v34 false (ldD (.agg 3) v33 h)) fun v35 =>
kv (gdV v34 false (ldD (.agg 3) v0 h)) fun v36 =>
gdC v34 false h (fun K37 => cl (F.rec_Eq E) [v35, v36] h fun v h => K37 v h) fun v38 h =>
kv (gdV v34 false (aUn .not v38)) fun v39 =>
kv (pickV v34 (.bool true) v39) fun v40 =>
ifV v40 (
kv (buildD (.struct [(.int .i64 0), (.int .i64 0)] [(0, 1), (1, 1)]) []) fun v41 =>
kH (stD (some 2) v1 v41 h) fun _ h =>
kv (ldD (.agg 2) v1 h) fun r42 =>
K (.tuple #[r42, (.int .i64 0), (.bool false), (.bool false)]) h) (
kv (ldD (.agg 2) v26 h) fun v43 =>
kH (stD (some 2) v1 v43 h) fun _ h =>
kv (ldD (.agg 2) v1 h) fun r44 =>
K (.tuple #[r44, v20, v25, (.bool true)]) h))
| _ => False
def F.name_Ids_Add (E : FE) : Spec := fun args h K => match args with
| [a0, a1] =>
kP (newD none a1 h) fun v0 h =>
kv (binD (.ptr true) .eql true a0 (.pointer none) h) fun v1 =>
kv (gdV v1 false (some a0)) fun v2 =>
kv (gdV v1 false (aNil v2)) fun v3 =>
kv (gdV v1 false (fieldAddrD (some 0) v3)) fun v4 =>
kv (gdV v1 false (ldD .one v4 h)) fun v5 =>
kv (gdV v1 false (ldD (.agg 2) v0 h)) fun v6 =>
kv (gdV v1 false (lookupD (some ((.struct false [(0, .int), (1, .int)]), (some (.bool false)))) v5 v6 false h)) fun v7 =>
kv (pickV v1 (.bool true) v7) fun v8 =>
ifV v8 (
K (.bool false) h) (
kv (aNil a0) fun v9 =>
kv (fieldAddrD (some 0) v9) fun v10 =>
kv (ldD .one v10 h) fun v11 =>
kv (ldD (.agg 2) v0 h) fun v12 =>
kH (mapUpdateD (some ((.struct false [(0, .int), (1, .int)]), (some (.bool false)))) v11 v12 (.bool true) h) fun _ h =>
K (.bool true) h)
| _ => False
def F.vault_Vault_lays (E : FE) : Spec := fun args h K => match args with
| [a0, a1, a2, a3] =>
kv (aNil a1) fun v0 =>
kv (fieldAddrD (some 3) v0) fun v1 =>
kv (ldD .one v1 h) fun v2 =>
kv (lookupD (some (.string, (some (.pointer none)))) v2 a2 false h) fun v3 =>
kv (gdV a3 true (some v3)) fun v4 =>
kv (gdV a3 true (binD (.ptr true) .eql true v4 (.pointer none) h)) fun v5 =>
kv (pickV a3 v5 (.bool false)) fun v6 =>
ifV v6 (
kv (aNil a0) fun v7 =>
kv (fieldAddrD (some 0) v7) fun v8 =>
kv (ldD .one v8 h) fun v9 =>
kH (deleteD (some (.string, (some (.pointer none)))) v9 a2 h) fun _ h =>
K (.tuple #[]) h) (
ifV a3 (
kv (aNil a0) fun v10 =>
kv (fieldAddrD (some 0) v10) fun v11 =>
kv (ldD .one v11 h) fun v12 =>
kH (mapUpdateD (some (.string, (some (.pointer none)))) v12 a2 v3 h) fun _ h =>
K (.tuple #[]) h) (
kv (aNil a1) fun v13 =>
kv (fieldAddrD (some 0) v13) fun v14 =>
kv (ldD .one v14 h) fun v15 =>
kv (lenD .slice v15 h) fun v16 =>
∃ (Inv17 : Nat → List V → AHeap → Prop) (n17 : Nat), Inv17 n17 [(.int .i64 0)] h ∧ ∀ (n17 : Nat) (e17 : Nat → V) (h : AHeap), Inv17 n17 [(e17 24)] h →
kv (binD .bad .lss false (e17 24) v16 h) fun v18 =>
ifV v18 (
kv (indexAddrD (.slice 5) v15 (e17 24)) fun v19 =>
kv (ldD (.agg 5) v19 h) fun v20 =>
kP (newD none (.agg #[(.int .i64 0), (.string ⟨#[]⟩), (.string ⟨#[]⟩), (.string ⟨#[]⟩), (.int .i64 0)]) h) fun v21 h =>
kH (stD (some 5) v21 v20 h) fun _ h =>
kv (fieldAddrD (some 1) v21) fun v22 =>
kv (ldD .one v22 h) fun v23 =>
kv (binD .bad .neq false v23 a2 h) fun v24 =>
kv (gdV v24 false (fieldAddrD (some 0) v21)) fun v25 =>
kv (gdV v24 false (ldD .one v25 h)) fun v26 =>
kv (gdV v24 false (binD .bad .neq true v26 (.int .i64 4) h)) fun v27 =>
kv (gdV v24 false (some v27)) fun v28 =>
kv (gdV v28 true (fieldAddrD (some 0) v21)) fun v29 =>
kv (gdV v28 true (ldD .one v29 h)) fun v30 =>
kv (gdV v28 true (binD .bad .neq true v30 (.int .i64 5) h)) fun v31 =>
kv (gdV v24 false (pickV v28 v31 (.bool false))) fun v32 =>
kv (pickV v24 (.bool true) v32) fun v33 =>
ifV v33 (
kv (binD .bad .add true (e17 24) (.int .i64 1) h) fun v34 =>
∃ m, m < n17 ∧ Inv17 m [v34] h) (
kv (aNil v3) fun v35 =>
kv (fieldAddrD (some 1) v35) fun v36 =>
kv (ldD .one v36 h) fun v37 =>
kv (fieldAddrD (some 2) v21) fun v38 =>
kv (ldD .one v38 h) fun v39 =>
cl (F.table_Table_Get E) [v37, v39] h fun v40 h =>
kv (aExtract v40 0) fun v41 =>
kv (aExtract v40 1) fun v42 =>
ifV v42 (
kv (aNil a0) fun v43 =>
kv (fieldAddrD (some 0) v43) fun v44 =>
kv (ldD .one v44 h) fun v45 =>
kv (lookupD (some (.string, (some (.pointer none)))) v45 a2 false h) fun v46 =>
kv (aNil v46) fun v47 =>
kv (fieldAddrD (some 1) v47) fun v48 =>
kv (ldD .one v48 h) fun v49 =>
kv (fieldAddrD (some 2) v21) fun v50 =>
kv (ldD .one v50 h) fun v51 =>
cl (F.table_Table_Put E) [v49, v51, v41] h fun v52 h =>
kv (binD .bad .add true (e17 24) (.int .i64 1) h) fun v53 =>
∃ m, m < n17 ∧ Inv17 m [v53] h) (
kv (aNil a0) fun v54 =>
kv (fieldAddrD (some 0) v54) fun v55 =>
kv (ldD .one v55 h) fun v56 =>
kv (lookupD (some (.string, (some (.pointer none)))) v56 a2 false h) fun v57 =>
kv (aNil v57) fun v58 =>
kv (fieldAddrD (some 1) v58) fun v59 =>
kv (ldD .one v59 h) fun v60 =>
kv (fieldAddrD (some 2) v21) fun v61 =>
kv (ldD .one v61 h) fun v62 =>
cl (F.table_Table_Del E) [v60, v62] h fun v63 h =>
kv (binD .bad .add true (e17 24) (.int .i64 1) h) fun v64 =>
∃ m, m < n17 ∧ Inv17 m [v64] h))) (
K (.tuple #[]) h)))
| _ => False
def F.vault_Vault_Decide (E : FE) : Spec := fun args h K => match args with
| [a0, a1, a2] =>
kP (newD none a1 h) fun v0 h =>
kv (binD (.ptr true) .eql true a0 (.pointer none) h) fun v1 =>
kv (gdV v1 false (some a0)) fun v2 =>
kv (gdV v1 false (aNil v2)) fun v3 =>
kv (gdV v1 false (fieldAddrD (some 3) v3)) fun v4 =>
kv (gdV v1 false (ldD .one v4 h)) fun v5 =>
kv (gdV v1 false (ldD (.agg 2) v0 h)) fun v6 =>
gdC v1 false h (fun K7 => cl (F.name_Ids_Add E) [v5, v6] h fun v h => K7 v h) fun v8 h =>
kv (gdV v1 false (aUn .not v8)) fun v9 =>
kv (pickV v1 (.bool true) v9) fun v10 =>
ifV v10 (
K (.bool false) h) (
kv (aNil a0) fun v11 =>
kv (fieldAddrD (some 2) v11) fun v12 =>
kv (ldD .one v12 h) fun v13 =>
kv (ldD (.agg 2) v0 h) fun v14 =>
kv (lookupD (some ((.struct false [(0, .int), (1, .int)]), (some (.pointer none)))) v13 v14 false h) fun v15 =>
kv (binD (.ptr true) .eql true v15 (.pointer none) h) fun v16 =>
ifV v16 (
K (.bool true) h) (
kP (makeMapD true none h) fun v17 h =>
kv (aNil a0) fun v18 =>
kv (fieldAddrD (some 1) v18) fun v19 =>
kv (ldD .one v19 h) fun v20 =>
kv (ldD (.agg 2) v0 h) fun v21 =>
cl (F.lock_Locks_Has E) [v20, v21] h fun v22 h =>
kv (lenD .slice v22 h) fun v23 =>
∃ (Inv24 : Nat → List V → AHeap → Prop) (n24 : Nat), Inv24 n24 [(.int .i64 0)] h ∧ ∀ (n24 : Nat) (e24 : Nat → V) (h : AHeap), Inv24 n24 [(e24 39)] h →
kv (binD .bad .lss false (e24 39) v23 h) fun v25 =>
ifV v25 (
kv (indexAddrD (.slice 3) v22 (e24 39)) fun v26 =>
kv (ldD (.agg 3) v26 h) fun v27 =>
kP (newD none (.agg #[(.string ⟨#[]⟩), (.string ⟨#[]⟩), (.bool false)]) h) fun v28 h =>
kH (stD (some 3) v28 v27 h) fun _ h =>
kv (fieldAddrD (some 0) v28) fun v29 =>
kv (ldD .one v29 h) fun v30 =>
kv (fieldAddrD (some 0) v28) fun v31 =>
kv (ldD .one v31 h) fun v32 =>
kv (lookupD (some (.string, (some (.bool false)))) v17 v32 false h) fun v33 =>
kv (gdV v33 false (fieldAddrD (some 2) v28)) fun v34 =>
kv (gdV v33 false (ldD .one v34 h)) fun v35 =>
kv (pickV v33 (.bool true) v35) fun v36 =>
kH (mapUpdateD (some (.string, (some (.bool false)))) v17 v30 v36 h) fun _ h =>
kv (binD .bad .add true (e24 39) (.int .i64 1) h) fun v37 =>
∃ m, m < n24 ∧ Inv24 m [v37] h) (
kv (aNil a0) fun v38 =>
kv (fieldAddrD (some 1) v38) fun v39 =>
kv (ldD .one v39 h) fun v40 =>
kv (ldD (.agg 2) v0 h) fun v41 =>
cl (F.lock_Locks_Free E) [v40, v41] h fun v42 h =>
kv (aNil a0) fun v43 =>
kv (fieldAddrD (some 2) v43) fun v44 =>
kv (ldD .one v44 h) fun v45 =>
kv (ldD (.agg 2) v0 h) fun v46 =>
kH (deleteD (some ((.struct false [(0, .int), (1, .int)]), (some (.pointer none)))) v45 v46 h) fun _ h =>
kv (aNil v15) fun v47 =>
kv (fieldAddrD (some 3) v47) fun v48 =>
kv (ldD .one v48 h) fun v49 =>
kP (rangeD .map v49 h) fun v50 h =>
∃ (Inv51 : Nat → List V → AHeap → Prop) (n51 : Nat), Inv51 n51 [] h ∧ ∀ (n51 : Nat) (e51 : Nat → V) (h : AHeap), Inv51 n51 [] h →
aNext v50 false h fun v52 h =>
kv (aExtract v52 0) fun v53 =>
ifV v53 (
kV (aEntry v50 h) h fun v54 h =>
kv (aExtract v54 0) fun v55 =>
ifV a2 (
kv (lookupD (some (.string, (some (.bool false)))) v17 v55 false h) fun v56 =>
cl (F.vault_Vault_lays E) [a0, v15, v55, v56] h fun v57 h =>
∃ m, m < n51 ∧ Inv51 m [] h) (
∃ m, m < n51 ∧ Inv51 m [] h)) (
K (.bool true) h))))
| _ => False
def F.shard_Shard_decides (E : FE) : Spec := fun args h K => match args with
| [a0, a1] =>
kP (newD none a1 h) fun v0 h =>
kv (ldD (.agg 3) v0 h) fun v1 =>
cl (F.op_GetWord E) [v1] h fun v2 h =>
kv (aExtract v2 0) fun v3 =>
kv (aExtract v2 1) fun v4 =>
kv (aExtract v2 2) fun v5 =>
kv (aExtract v2 3) fun v6 =>
kP (newD none (.agg #[(.int .i64 0), (.int .i64 0)]) h) fun v7 h =>
kH (stD (some 2) v7 v3 h) fun _ h =>
kv (aUn .not v6) fun v8 =>
kv (gdV v8 false (some v4)) fun v9 =>
kv (gdV v8 false (some a0)) fun v10 =>
kv (gdV v8 false (aNil v10)) fun v11 =>
kv (gdV v8 false (fieldAddrD (some 0) v11)) fun v12 =>
kv (gdV v8 false (ldD .one v12 h)) fun v13 =>
kv (gdV v8 false (binD .bad .neq false v9 v13 h)) fun v14 =>
kv (pickV v8 (.bool true) v14) fun v15 =>
ifV v15 (
K (.slice none 0 0) h) (
kv (aNil a0) fun v16 =>
kv (fieldAddrD (some 3) v16) fun v17 =>
kv (ldD .one v17 h) fun v18 =>
kv (ldD (.agg 2) v7 h) fun v19 =>
cl (F.vault_Vault_Decide E) [v18, v19, v5] h fun v20 h =>
kv (ldD (.agg 2) v7 h) fun v21 =>
kv (aNil a0) fun v22 =>
kv (fieldAddrD (some 0) v22) fun v23 =>
kv (ldD .one v23 h) fun v24 =>
(cl (F.op_Word E) [(.int .i64 7), v21, v24, v5] h fun v25 h =>
kv (aExtract v25 0) fun v26 =>
kv (aExtract v25 1) fun v27 =>
kP (newD none (.agg #[(.int .i64 0), (.slice none 0 0), (.slice none 0 0)]) h) fun v28 h =>
ldD (.agg 2) v7 h = some v21 ∧
ldD .one v23 h = some v24 ∧
kH (stD (some 3) v28 v26 h) fun _ h =>
kv (ldD (.agg 2) v7 h) fun v29 =>
kv (ldD (.agg 3) v28 h) fun v30 =>
cl (F.shard_Shard_word E) [a0, v29, v30, v27] h fun v31 h =>
K v31 h) ∧
(kP (newD none (.agg #[(.int .i64 0), (.slice none 0 0), (.slice none 0 0)]) h) fun v32 h =>
ldD (.agg 2) v7 h = some v21 ∧
ldD .one v23 h = some v24 ∧
cl (F.op_Word E) [(.int .i64 7), v21, v24, v5] h fun v33 h =>
kv (aExtract v33 0) fun v34 =>
kv (aExtract v33 1) fun v35 =>
kH (stD (some 3) v32 v34 h) fun _ h =>
kv (ldD (.agg 2) v7 h) fun v36 =>
kv (ldD (.agg 3) v32 h) fun v37 =>
cl (F.shard_Shard_word E) [a0, v36, v37, v35] h fun v38 h =>
K v38 h))
| _ => False
def F.shard_Shard_Apply (E : FE) : Spec := fun args h K => match args with
| [a0, a1] =>
kP (newD none a1 h) fun v0 h =>
kv (binD (.ptr true) .eql true a0 (.pointer none) h) fun v1 =>
ifV v1 (
K (.tuple #[(.slice none 0 0), (.slice none 0 0)]) h) (
kv (fieldAddrD (some 0) v0) fun v2 =>
kv (ldD .one v2 h) fun v3 =>
kv (binD .bad .eql true v3 (.int .i64 2) h) fun v4 =>
ifV v4 (
kv (fieldAddrD (some 1) v0) fun v5 =>
kv (ldD .one v5 h) fun v6 =>
kv (lenD .slice v6 h) fun v7 =>
kv (binD .bad .eql true v7 (.int .i64 1) h) fun v8 =>
kv (gdV v8 true (fieldAddrD (some 2) v0)) fun v9 =>
kv (gdV v8 true (ldD .one v9 h)) fun v10 =>
kv (gdV v8 true (lenD .slice v10 h)) fun v11 =>
kv (gdV v8 true (binD .bad .eql true v11 (.int .i64 0) h)) fun v12 =>
kv (pickV v8 v12 (.bool false)) fun v13 =>
kv (gdV v13 true (fieldAddrD (some 1) v0)) fun v14 =>
kv (gdV v13 true (ldD .one v14 h)) fun v15 =>
kv (gdV v13 true (indexAddrD (.slice 1) v15 (.int .i64 0))) fun v16 =>
kv (gdV v13 true (ldD .one v16 h)) fun v17 =>
kv (gdV v13 true (binD .bad .leq true v17 (.int .i64 1099511627776) h)) fun v18 =>
kv (pickV v13 v18 (.bool false)) fun v19 =>
ifV v19 (
kv (aNil a0) fun v20 =>
kv (fieldAddrD (some 2) v20) fun v21 =>
kv (ldD .one v21 h) fun v22 =>
kv (fieldAddrD (some 1) v0) fun v23 =>
kv (ldD .one v23 h) fun v24 =>
kv (indexAddrD (.slice 1) v24 (.int .i64 0)) fun v25 =>
kv (ldD .one v25 h) fun v26 =>
kv (aMinMax true [v22, v26]) fun v27 =>
kv (aNil a0) fun v28 =>
kv (fieldAddrD (some 2) v28) fun v29 =>
kH (stD (some 1) v29 v27 h) fun _ h =>
K (.tuple #[(.slice none 0 0), (.slice none 0 0)]) h) (
K (.tuple #[(.slice none 0 0), (.slice none 0 0)]) h)) (
kv (binD .bad .eql true v3 (.int .i64 3) h) fun v30 =>
ifV v30 (
kv (ldD (.agg 3) v0 h) fun v31 =>
cl (F.shard_Shard_begins E) [a0, v31] h fun v32 h =>
K (.tuple #[v32, (.slice none 0 0)]) h) (
kv (binD .bad .eql true v3 (.int .i64 4) h) fun v33 =>
ifV v33 (
kv (ldD (.agg 3) v0 h) fun v34 =>
cl (F.shard_Shard_prepares E) [a0, v34] h fun v35 h =>
K (.tuple #[v35, (.slice none 0 0)]) h) (
kv (binD .bad .eql true v3 (.int .i64 5) h) fun v36 =>
ifV v36 (
kv (ldD (.agg 3) v0 h) fun v37 =>
cl (F.shard_Shard_votes E) [a0, v37] h fun v38 h =>
kv (aExtract v38 0) fun v39 =>
kv (aExtract v38 1) fun v40 =>
K (.tuple #[v39, v40]) h) (
kv (binD .bad .eql true v3 (.int .i64 6) h) fun v41 =>
ifV v41 (
kv (ldD (.agg 3) v0 h) fun v42 =>
cl (F.shard_Shard_decides E) [a0, v42] h fun v43 h =>
K (.tuple #[v43, (.slice none 0 0)]) h) (
kv (binD .bad .eql true v3 (.int .i64 7) h) fun v44 =>
ifV v44 (
kv (ldD (.agg 3) v0 h) fun v45 =>
cl (F.op_GetWord E) [v45] h fun v46 h =>
kv (aExtract v46 0) fun v47 =>
kv (aExtract v46 1) fun v48 =>
kv (aExtract v46 2) fun v49 =>
kv (aExtract v46 3) fun v50 =>
kP (newD none (.agg #[(.int .i64 0), (.int .i64 0)]) h) fun v51 h =>
kH (stD (some 2) v51 v47 h) fun _ h =>
kv (gdV v50 true (some a0)) fun v52 =>
kv (gdV v50 true (ldD (.agg 2) v51 h)) fun v53 =>
gdC v50 true h (fun K54 => cl (F.shard_Shard_mine E) [v52, v53] h fun v h => K54 v h) fun v55 h =>
kv (pickV v50 v55 (.bool false)) fun v56 =>
ifV v56 (
kv (aNil a0) fun v57 =>
kv (fieldAddrD (some 4) v57) fun v58 =>
kv (ldD .one v58 h) fun v59 =>
kv (ldD (.agg 2) v51 h) fun v60 =>
cl (F.desk_Desk_Done E) [v59, v60, v48] h fun v61 h =>
K (.tuple #[(.slice none 0 0), (.slice none 0 0)]) h) (
K (.tuple #[(.slice none 0 0), (.slice none 0 0)]) h)) (
K (.tuple #[(.slice none 0 0), (.slice none 0 0)]) h)))))))
| _ => False
def F.shard_Shard_Now (E : FE) : Spec := fun args h K => match args with
| [a0] =>
kv (binD (.ptr true) .eql true a0 (.pointer none) h) fun v0 =>
ifV v0 (
K (.int .i64 0) h) (
kv (aNil a0) fun v1 =>
kv (fieldAddrD (some 2) v1) fun v2 =>
kv (ldD .one v2 h) fun v3 =>
K v3 h)
| _ => False
def F.estafettelaw15_begun (_ : FE) : Spec := fun args h K => args = [] ∧ K (.bool true) h
end Go.Abs

/- Shallow forms of functions, printed by tools/gen.lean. -/
import Derived.Test.YthhegdifbnghpaaGreatDoorVap
import Derived.Test.YthhegdifbnghpaaGreatDoorVao
import Derived.Test.YthhegdifbnghpaaGreatDoorVan
set_option maxRecDepth 20000
set_option linter.unusedVariables false
set_option linter.unusedSimpArgs false
namespace Go.Abs
open Go
def F.desk_New (E : FE) : Spec := fun args h K => match args with
| [a0] =>
kv (binD .bad .lss true a0 (.int .i64 1) h) fun v0 =>
kv (gdV v0 false (some a0)) fun v1 =>
kv (gdV v0 false (binD .bad .gtr true v1 (.int .i64 3) h)) fun v2 =>
kv (pickV v0 (.bool true) v2) fun v3 =>
ifV v3 (
K (.pointer none) h) (
kP (makeMapD true none h) fun v4 h =>
kP (makeMapD true none h) fun v5 h =>
kP (makeMapD true none h) fun v6 h =>
kv (buildD (.struct [(.int .i64 0), (.map none), (.map none), (.map none)] [(0, 1), (1, 1), (2, 1), (3, 1)]) [(0, a0), (1, v4), (2, v5), (3, v6)]) fun v7 =>
kP (newD none v7 h) fun v8 h =>
K v8 h)
| _ => False
def F.op_Client (E : FE) : Spec := fun args h K => match args with
| [a0] =>
kP (newD none a0 h) fun v0 h =>
kv (fieldAddrD (some 0) v0) fun v1 =>
kv (ldD .one v1 h) fun v2 =>
kv (binD .bad .geq true v2 (.int .i64 0) h) fun v3 =>
kv (gdV v3 true (fieldAddrD (some 0) v0)) fun v4 =>
kv (gdV v3 true (ldD .one v4 h)) fun v5 =>
kv (gdV v3 true (binD .bad .leq true v5 (.int .i64 8) h)) fun v6 =>
kv (pickV v3 v6 (.bool false)) fun v7 =>
kv (gdV v7 true (fieldAddrD (some 1) v0)) fun v8 =>
kv (gdV v7 true (ldD .one v8 h)) fun v9 =>
kv (gdV v7 true (binD .bad .geq true v9 (.int .i64 1) h)) fun v10 =>
kv (pickV v7 v10 (.bool false)) fun v11 =>
kv (gdV v11 true (fieldAddrD (some 1) v0)) fun v12 =>
kv (gdV v11 true (ldD .one v12 h)) fun v13 =>
kv (gdV v11 true (binD .bad .leq true v13 (.int .i64 1099511627776) h)) fun v14 =>
kv (pickV v11 v14 (.bool false)) fun v15 =>
K v15 h
| _ => False
def F.slices_IndexFunc_Sapi_Op_api_Op (E : FE) : Spec := fun args h K => match args with
| [a0, a1] =>
kv (lenD .slice a0 h) fun v0 =>
∃ (Inv1 : Nat → List V → AHeap → Prop) (n1 : Nat), Inv1 n1 [(.int .i64 0)] h ∧ ∀ (n1 : Nat) (e1 : Nat → V) (h : AHeap), Inv1 n1 [(e1 8)] h →
kv (binD .bad .lss false (e1 8) v0 h) fun v2 =>
ifV v2 (
kv (indexAddrD (.slice 5) a0 (e1 8)) fun v3 =>
kv (ldD (.agg 5) v3 h) fun v4 =>
aCall E.I a1 [v4] h fun v5 h =>
ifV v5 (
K (e1 8) h) (
kv (binD .bad .add true (e1 8) (.int .i64 1) h) fun v6 =>
∃ m, m < n1 ∧ Inv1 m [v6] h)) (
K (.int .i64 (-1)) h)
| _ => False
def F.slices_ContainsFunc_Sapi_Op_api_Op (E : FE) : Spec := fun args h K => match args with
| [a0, a1] =>
cl (F.slices_IndexFunc_Sapi_Op_api_Op E) [a0, a1] h fun v0 h =>
kv (binD .bad .geq true v0 (.int .i64 0) h) fun v1 =>
K v1 h
| _ => False
def F.op_names (E : FE) : Spec := fun args h K => match args with
| [a0] =>
kv (binD .bad .eql true a0 (.int .i64 1) h) fun v0 =>
∃ K1 : List V → AHeap → Prop, (
ifV v0 (
K1 [v0] h) (
kv (binD .bad .eql true a0 (.int .i64 8) h) fun v2 =>
ifV v2 (
K1 [v2] h) (
kv (binD .bad .eql true a0 (.int .i64 11) h) fun v3 =>
K1 [v3] h))) ∧ ∀ (e1 : Nat → V) (h : AHeap), K1 [(e1 6)] h →
ifV (e1 6) (
K (.tuple #[(.bool true), (.bool false), (.bool true)]) h) (
kv (binD .bad .eql true a0 (.int .i64 3) h) fun v4 =>
∃ K5 : List V → AHeap → Prop, (
ifV v4 (
K5 [v4] h) (
kv (binD .bad .eql true a0 (.int .i64 5) h) fun v6 =>
K5 [v6] h)) ∧ ∀ (e5 : Nat → V) (h : AHeap), K5 [(e5 10)] h →
ifV (e5 10) (
K (.tuple #[(.bool true), (.bool false), (.bool false)]) h) (
kv (binD .bad .eql true a0 (.int .i64 4) h) fun v7 =>
ifV v7 (
K (.tuple #[(.bool true), (.bool true), (.bool false)]) h) (
kv (binD .bad .eql true a0 (.int .i64 6) h) fun v8 =>
∃ K9 : List V → AHeap → Prop, (
ifV v8 (
K9 [v8] h) (
kv (binD .bad .eql true a0 (.int .i64 10) h) fun v10 =>
K9 [v10] h)) ∧ ∀ (e9 : Nat → V) (h : AHeap), K9 [(e9 15)] h →
ifV (e9 15) (
K (.tuple #[(.bool false), (.bool true), (.bool false)]) h) (
kv (binD .bad .eql true a0 (.int .i64 7) h) fun v11 =>
ifV v11 (
K (.tuple #[(.bool false), (.bool false), (.bool true)]) h) (
kv (binD .bad .eql true a0 (.int .i64 12) h) fun v12 =>
ifV v12 (
K (.tuple #[(.bool true), (.bool true), (.bool true)]) h) (
K (.tuple #[(.bool false), (.bool false), (.bool false)]) h))))))
| _ => False
def F.strings_indexFunc (E : FE) : Spec := fun args h K => match args with
| [a0, a1, a2] =>
kP (rangeD .str a0 h) fun v0 h =>
∃ (Inv1 : Nat → List V → AHeap → Prop) (n1 : Nat), Inv1 n1 [] h ∧ ∀ (n1 : Nat) (e1 : Nat → V) (h : AHeap), Inv1 n1 [] h →
aNext v0 true h fun v2 h =>
kv (aExtract v2 0) fun v3 =>
ifV v3 (
kv (aExtract v2 1) fun v4 =>
kv (aExtract v2 2) fun v5 =>
aCall E.I a1 [v5] h fun v6 h =>
kv (binD .bool .eql false v6 a2 h) fun v7 =>
ifV v7 (
K v4 h) (
∃ m, m < n1 ∧ Inv1 m [] h)) (
K (.int .i64 (-1)) h)
| _ => False
def F.strings_IndexFunc (E : FE) : Spec := fun args h K => match args with
| [a0, a1] =>
cl (F.strings_indexFunc E) [a0, a1, (.bool true)] h fun v0 h =>
K v0 h
| _ => False
def F.strings_ContainsFunc (E : FE) : Spec := fun args h K => match args with
| [a0, a1] =>
cl (F.strings_IndexFunc E) [a0, a1] h fun v0 h =>
kv (binD .bad .geq true v0 (.int .i64 0) h) fun v1 =>
K v1 h
| _ => False
def F.op_makes (E : FE) : Spec := fun args h K => match args with
| [a0] =>
kP (newD none a0 h) fun v0 h =>
kv (fieldAddrD (some 4) v0) fun v1 =>
kv (ldD .one v1 h) fun v2 =>
kv (binD .bad .lss true v2 (.int .i64 1) h) fun v3 =>
kv (gdV v3 false (fieldAddrD (some 4) v0)) fun v4 =>
kv (gdV v3 false (ldD .one v4 h)) fun v5 =>
kv (gdV v3 false (binD .bad .gtr true v5 (.int .i64 3) h)) fun v6 =>
kv (pickV v3 (.bool true) v6) fun v7 =>
ifV v7 (
K (.bool false) h) (
kv (fieldAddrD (some 2) v0) fun v8 =>
kv (ldD .one v8 h) fun v9 =>
kv (lenD .str v9 h) fun v10 =>
kv (binD .bad .eql true v10 (.int .i64 1) h) fun v11 =>
kv (gdV v11 true (fieldAddrD (some 2) v0)) fun v12 =>
kv (gdV v11 true (ldD .one v12 h)) fun v13 =>
kv (gdV v11 true (indexD .str v13 (.int .i64 0))) fun v14 =>
kv (gdV v11 true (binD .bad .geq true v14 (.int .u8 49) h)) fun v15 =>
kv (pickV v11 v15 (.bool false)) fun v16 =>
kv (gdV v16 true (fieldAddrD (some 2) v0)) fun v17 =>
kv (gdV v16 true (ldD .one v17 h)) fun v18 =>
kv (gdV v16 true (indexD .str v18 (.int .i64 0))) fun v19 =>
kv (gdV v16 true (binD .bad .leq true v19 (.int .u8 57) h)) fun v20 =>
kv (pickV v16 v20 (.bool false)) fun v21 =>
kv (gdV v21 false (fieldAddrD (some 2) v0)) fun v22 =>
kv (gdV v21 false (ldD .one v22 h)) fun v23 =>
kv (gdV v21 false (binD .bad .eql true v23 (.string ⟨#[]⟩) h)) fun v24 =>
kv (gdV v21 false (some v24)) fun v25 =>
kv (gdV v25 true (fieldAddrD (some 4) v0)) fun v26 =>
kv (gdV v25 true (ldD .one v26 h)) fun v27 =>
kv (gdV v25 true (binD .bad .neq true v27 (.int .i64 2) h)) fun v28 =>
kv (gdV v21 false (pickV v25 v28 (.bool false))) fun v29 =>
kv (pickV v21 (.bool true) v29) fun v30 =>
K v30 h)
| _ => False
def F.op_May_1 (E : FE) : Spec := fun args h K => match args with
| [a0] =>
kv (binD .bad .lss true a0 (.int .i32 97) h) fun v0 =>
kv (gdV v0 false (some a0)) fun v1 =>
kv (gdV v0 false (binD .bad .gtr true v1 (.int .i32 122) h)) fun v2 =>
kv (pickV v0 (.bool true) v2) fun v3 =>
K v3 h
| _ => False
def F.op_May (E : FE) : Spec := fun args h K => match args with
| [a0] =>
kP (newD none a0 h) fun v0 h =>
kv (fieldAddrD (some 0) v0) fun v1 =>
kv (ldD .one v1 h) fun v2 =>
cl (F.op_names E) [v2] h fun v3 h =>
kv (aExtract v3 0) fun v4 =>
kv (aExtract v3 1) fun v5 =>
kv (aExtract v3 2) fun v6 =>
kv (fieldAddrD (some 0) v0) fun v7 =>
kv (ldD .one v7 h) fun v8 =>
kv (binD .bad .lss true v8 (.int .i64 1) h) fun v9 =>
kv (gdV v9 false (fieldAddrD (some 0) v0)) fun v10 =>
kv (gdV v9 false (ldD .one v10 h)) fun v11 =>
kv (gdV v9 false (binD .bad .gtr true v11 (.int .i64 12) h)) fun v12 =>
kv (pickV v9 (.bool true) v12) fun v13 =>
∃ K14 : List V → AHeap → Prop, (
ifV v13 (
K14 [v13] h) (
kv (fieldAddrD (some 1) v0) fun v15 =>
kv (ldD .one v15 h) fun v16 =>
kv (binD .bad .eql true v16 (.string ⟨#[]⟩) h) fun v17 =>
kv (gdV v17 false (fieldAddrD (some 1) v0)) fun v18 =>
kv (gdV v17 false (ldD .one v18 h)) fun v19 =>
kv (gdV v17 false (lenD .str v19 h)) fun v20 =>
kv (gdV v17 false (binD .bad .gtr true v20 (.int .i64 20) h)) fun v21 =>
kv (pickV v17 (.bool true) v21) fun v22 =>
kv (gdV v22 false (fieldAddrD (some 1) v0)) fun v23 =>
kv (gdV v22 false (ldD .one v23 h)) fun v24 =>
kv (gdV v22 false (some (.func (.func (E.k 7)) #[] #[]))) fun v25 =>
gdC v22 false h (fun K26 => cl (F.strings_ContainsFunc E) [v24, v25] h fun v h => K26 v h) fun v27 h =>
kv (pickV v22 (.bool true) v27) fun v28 =>
K14 [v28] h)) ∧ ∀ (e14 : Nat → V) (h : AHeap), K14 [(e14 14)] h →
ifV (e14 14) (
K (.bool false) h) (
kv (fieldAddrD (some 2) v0) fun v29 =>
kv (ldD .one v29 h) fun v30 =>
kv (lenD .str v30 h) fun v31 =>
kv (binD .bad .gtr true v31 (.int .i64 20) h) fun v32 =>
kv (gdV v32 false (fieldAddrD (some 3) v0)) fun v33 =>
kv (gdV v32 false (ldD .one v33 h)) fun v34 =>
kv (gdV v32 false (lenD .str v34 h)) fun v35 =>
kv (gdV v32 false (binD .bad .gtr true v35 (.int .i64 100) h)) fun v36 =>
kv (pickV v32 (.bool true) v36) fun v37 =>
kv (gdV v37 false (fieldAddrD (some 4) v0)) fun v38 =>
kv (gdV v37 false (ldD .one v38 h)) fun v39 =>
kv (gdV v37 false (binD .bad .lss true v39 (.int .i64 0) h)) fun v40 =>
kv (pickV v37 (.bool true) v40) fun v41 =>
kv (gdV v41 false (fieldAddrD (some 4) v0)) fun v42 =>
kv (gdV v41 false (ldD .one v42 h)) fun v43 =>
kv (gdV v41 false (binD .bad .gtr true v43 (.int .i64 1099511627776) h)) fun v44 =>
kv (pickV v41 (.bool true) v44) fun v45 =>
∃ K46 : List V → AHeap → Prop, (
ifV v45 (
K46 [v45] h) (
kv (aUn .not v4) fun v47 =>
kv (gdV v47 true (fieldAddrD (some 2) v0)) fun v48 =>
kv (gdV v47 true (ldD .one v48 h)) fun v49 =>
kv (gdV v47 true (binD .bad .neq true v49 (.string ⟨#[]⟩) h)) fun v50 =>
kv (pickV v47 v50 (.bool false)) fun v51 =>
ifV v51 (
K46 [v51] h) (
kv (aUn .not v5) fun v52 =>
kv (gdV v52 true (fieldAddrD (some 3) v0)) fun v53 =>
kv (gdV v52 true (ldD .one v53 h)) fun v54 =>
kv (gdV v52 true (binD .bad .neq true v54 (.string ⟨#[]⟩) h)) fun v55 =>
kv (pickV v52 v55 (.bool false)) fun v56 =>
ifV v56 (
K46 [v56] h) (
kv (aUn .not v6) fun v57 =>
kv (gdV v57 true (fieldAddrD (some 4) v0)) fun v58 =>
kv (gdV v57 true (ldD .one v58 h)) fun v59 =>
kv (gdV v57 true (binD .bad .neq true v59 (.int .i64 0) h)) fun v60 =>
kv (pickV v57 v60 (.bool false)) fun v61 =>
K46 [v61] h)))) ∧ ∀ (e46 : Nat → V) (h : AHeap), K46 [(e46 38)] h →
ifV (e46 38) (
K (.bool false) h) (
kv (fieldAddrD (some 0) v0) fun v62 =>
kv (ldD .one v62 h) fun v63 =>
kv (binD .bad .neq true v63 (.int .i64 1) h) fun v64 =>
kv (gdV v64 false (ldD (.agg 5) v0 h)) fun v65 =>
gdC v64 false h (fun K66 => cl (F.op_makes E) [v65] h fun v h => K66 v h) fun v67 h =>
kv (pickV v64 (.bool true) v67) fun v68 =>
K v68 h))
| _ => False
def F.op_All_1 (E : FE) : Spec := fun args h K => match args with
| [a0] =>
kP (newD none a0 h) fun v0 h =>
kv (ldD (.agg 5) v0 h) fun v1 =>
cl (F.op_May E) [v1] h fun v2 h =>
kv (aUn .not v2) fun v3 =>
K v3 h
| _ => False
def F.op_All (E : FE) : Spec := fun args h K => match args with
| [a0] =>
kv (lenD .slice a0 h) fun v0 =>
kv (binD .bad .geq true v0 (.int .i64 1) h) fun v1 =>
kv (gdV v1 true (some a0)) fun v2 =>
kv (gdV v1 true (lenD .slice v2 h)) fun v3 =>
kv (gdV v1 true (binD .bad .leq true v3 (.int .i64 8) h)) fun v4 =>
kv (pickV v1 v4 (.bool false)) fun v5 =>
kv (gdV v5 true (some a0)) fun v6 =>
gdC v5 true h (fun K7 => cl (F.slices_ContainsFunc_Sapi_Op_api_Op E) [v6, (.func (.func (E.k 6)) #[] #[])] h fun v h => K7 v h) fun v8 h =>
kv (gdV v5 true (aUn .not v8)) fun v9 =>
kv (pickV v5 v9 (.bool false)) fun v10 =>
K v10 h
| _ => False
def F.slices_Clone_Sapi_Op_api_Op (E : FE) : Spec := fun args h K => match args with
| [a0] =>
kv (binD .slice .eql true a0 (.slice none 0 0) h) fun v0 =>
ifV v0 (
K (.slice none 0 0) h) (
kP (buildSliceD (some (5, [(.int .i64 0), (.string ⟨#[]⟩), (.string ⟨#[]⟩), (.string ⟨#[]⟩), (.int .i64 0)])) 0 [] h) fun v1 h =>
kP (appendD (some (5, 64, [(.int .i64 0), (.string ⟨#[]⟩), (.string ⟨#[]⟩), (.string ⟨#[]⟩), (.int .i64 0)])) v1 a0 h) fun v2 h =>
K v2 h)
| _ => False
def F.mark_Add (E : FE) : Spec := fun args h K => match args with
| [a0, a1] =>
kv (binD .bad .rem true a0 (.int .u32 65536) h) fun v0 =>
kv (binD .bad .rem true v0 (.int .u32 65521) h) fun v1 =>
kv (binD .bad .quo true a0 (.int .u32 65536) h) fun v2 =>
kv (binD .bad .rem true v2 (.int .u32 65521) h) fun v3 =>
kv (lenD .slice a1 h) fun v4 =>
∃ (Inv5 : Nat → List V → AHeap → Prop) (n5 : Nat), Inv5 n5 [v1, v3, (.int .i64 0)] h ∧ ∀ (n5 : Nat) (e5 : Nat → V) (h : AHeap), Inv5 n5 [(e5 5), (e5 6), (e5 17)] h →
kv (binD .bad .lss false (e5 17) v4 h) fun v6 =>
ifV v6 (
kv (indexAddrD (.slice 1) a1 (e5 17)) fun v7 =>
kv (ldD .one v7 h) fun v8 =>
kv ((convD (.int .u32) v8 h).map (·.1)) fun v9 =>
kv (binD .bad .add false (e5 5) v9 h) fun v10 =>
kv (binD .bad .rem true v10 (.int .u32 65521) h) fun v11 =>
kv (binD .bad .add false (e5 6) v11 h) fun v12 =>
kv (binD .bad .rem true v12 (.int .u32 65521) h) fun v13 =>
kv (binD .bad .add true (e5 17) (.int .i64 1) h) fun v14 =>
∃ m, m < n5 ∧ Inv5 m [v11, v13, v14] h) (
kv (binD .bad .mul true (e5 6) (.int .u32 65536) h) fun v15 =>
kv (binD .bad .add false v15 (e5 5) h) fun v16 =>
K v16 h)
| _ => False
def F.mark_Of (E : FE) : Spec := fun args h K => match args with
| [a0] =>
cl (F.mark_Add E) [(.int .u32 1), a0] h fun v0 h =>
K v0 h
| _ => False
def F.mark_Shards (E : FE) : Spec := fun args h K => match args with
| [a0, a1] =>
kv (binD .bad .lss true a1 (.int .i64 1) h) fun v0 =>
ifV v0 (
K (.int .i64 0) h) (
kP (convD .toBytes a0 h) fun v1 h =>
cl (F.mark_Of E) [v1] h fun v2 h =>
kv ((convD (.int .u64) v2 h).map (·.1)) fun v3 =>
kv ((convD (.int .u64) a1 h).map (·.1)) fun v4 =>
kv (binD .bad .rem false v3 v4 h) fun v5 =>
kv ((convD (.int .i64) v5 h).map (·.1)) fun v6 =>
K v6 h)
| _ => False
def F.name_Shard (E : FE) : Spec := fun args h K => match args with
| [a0, a1] =>
cl (F.mark_Shards E) [a0, a1] h fun v0 h =>
K v0 h
| _ => False
def F.op_Parts (E : FE) : Spec := fun args h K => match args with
| [a0, a1] =>
kv (binD .bad .lss true a1 (.int .i64 1) h) fun v0 =>
kv (gdV v0 false (some a1)) fun v1 =>
kv (gdV v0 false (binD .bad .gtr true v1 (.int .i64 3) h)) fun v2 =>
kv (pickV v0 (.bool true) v2) fun v3 =>
ifV v3 (
K (.slice none 0 0) h) (
kP (makeSliceD (some (1, 24, [(.slice none 0 0)])) a1 a1 h) fun v4 h =>
kv (lenD .slice a0 h) fun v5 =>
∃ (Inv6 : Nat → List V → AHeap → Prop) (n6 : Nat), Inv6 n6 [(.int .i64 0)] h ∧ ∀ (n6 : Nat) (e6 : Nat → V) (h : AHeap), Inv6 n6 [(e6 19)] h →
kv (binD .bad .lss false (e6 19) v5 h) fun v7 =>
ifV v7 (
kv (indexAddrD (.slice 5) a0 (e6 19)) fun v8 =>
kv (ldD (.agg 5) v8 h) fun v9 =>
kP (newD none (.agg #[(.int .i64 0), (.string ⟨#[]⟩), (.string ⟨#[]⟩), (.string ⟨#[]⟩), (.int .i64 0)]) h) fun v10 h =>
kH (stD (some 5) v10 v9 h) fun _ h =>
kv (fieldAddrD (some 1) v10) fun v11 =>
kv (ldD .one v11 h) fun v12 =>
cl (F.name_Shard E) [v12, a1] h fun v13 h =>
kv (indexAddrD (.slice 1) v4 v13) fun v14 =>
kv (ldD .one v14 h) fun v15 =>
kP (buildSliceD (some (1, [(.int .i64 0)])) 1 [(0, (e6 19))] h) fun v16 h =>
kP (appendD (some (1, 8, [(.int .i64 0)])) v15 v16 h) fun v17 h =>
kv (indexAddrD (.slice 1) v4 v13) fun v18 =>
kH (stD (some 1) v18 v17 h) fun _ h =>
kv (binD .bad .add true (e6 19) (.int .i64 1) h) fun v19 =>
∃ m, m < n6 ∧ Inv6 m [v19] h) (
K v4 h))
| _ => False
def F.desk_Desk_Begin (E : FE) : Spec := fun args h K => match args with
| [a0, a1, a2] =>
kP (newD none a1 h) fun v0 h =>
kv (binD (.ptr true) .eql true a0 (.pointer none) h) fun v1 =>
kv (gdV v1 false (ldD (.agg 2) v0 h)) fun v2 =>
gdC v1 false h (fun K3 => cl (F.op_Client E) [v2] h fun v h => K3 v h) fun v4 h =>
kv (gdV v1 false (aUn .not v4)) fun v5 =>
kv (pickV v1 (.bool true) v5) fun v6 =>
kv (gdV v6 false (some a2)) fun v7 =>
gdC v6 false h (fun K8 => cl (F.op_All E) [v7] h fun v h => K8 v h) fun v9 h =>
kv (gdV v6 false (aUn .not v9)) fun v10 =>
kv (pickV v6 (.bool true) v10) fun v11 =>
kv (gdV v11 false (fieldAddrD (some 1) v0)) fun v12 =>
kv (gdV v11 false (ldD .one v12 h)) fun v13 =>
kv (gdV v11 false (some a0)) fun v14 =>
kv (gdV v11 false (aNil v14)) fun v15 =>
kv (gdV v11 false (fieldAddrD (some 1) v15)) fun v16 =>
kv (gdV v11 false (ldD .one v16 h)) fun v17 =>
kv (gdV v11 false (fieldAddrD (some 0) v0)) fun v18 =>
kv (gdV v11 false (ldD .one v18 h)) fun v19 =>
kv (gdV v11 false (lookupD (some (.int, (some (.int .i64 0)))) v17 v19 false h)) fun v20 =>
kv (gdV v11 false (binD .bad .leq false v13 v20 h)) fun v21 =>
kv (pickV v11 (.bool true) v21) fun v22 =>
ifV v22 (
K (.bool false) h) (
kv (aNil a0) fun v23 =>
kv (fieldAddrD (some 1) v23) fun v24 =>
kv (ldD .one v24 h) fun v25 =>
kv (fieldAddrD (some 0) v0) fun v26 =>
kv (ldD .one v26 h) fun v27 =>
kv (fieldAddrD (some 1) v0) fun v28 =>
kv (ldD .one v28 h) fun v29 =>
kH (mapUpdateD (some (.int, (some (.int .i64 0)))) v25 v27 v29 h) fun _ h =>
kv (aNil a0) fun v30 =>
kv (fieldAddrD (some 2) v30) fun v31 =>
kv (ldD .one v31 h) fun v32 =>
kv (ldD (.agg 2) v0 h) fun v33 =>
kv (aNil a0) fun v34 =>
kv (fieldAddrD (some 0) v34) fun v35 =>
kv (ldD .one v35 h) fun v36 =>
((cl (F.slices_Clone_Sapi_Op_api_Op E) [a2] h fun v37 h =>
ldD .one v31 h = some v32 ∧
ldD (.agg 2) v0 h = some v33 ∧
ldD .one v35 h = some v36 ∧
((cl (F.op_Parts E) [a2, v36] h fun v38 h =>
ldD .one v31 h = some v32 ∧
ldD (.agg 2) v0 h = some v33 ∧
(kP (makeMapD true none h) fun v39 h =>
ldD .one v31 h = some v32 ∧
ldD (.agg 2) v0 h = some v33 ∧
ldD .one v35 h = some v36 ∧
kP (makeMapD true none h) fun v40 h =>
ldD .one v31 h = some v32 ∧
ldD (.agg 2) v0 h = some v33 ∧
ldD .one v35 h = some v36 ∧
kv (buildD (.struct [(.slice none 0 0), (.slice none 0 0), (.map none), (.bool false), (.bool false), (.map none), (.slice none 0 0)] [(0, 1), (1, 1), (2, 1), (3, 1), (4, 1), (5, 1), (6, 1)]) [(0, v37), (1, v38), (2, v39), (5, v40)]) fun v41 =>
kP (newD none v41 h) fun v42 h =>
ldD .one v31 h = some v32 ∧
ldD (.agg 2) v0 h = some v33 ∧
kH (mapUpdateD (some ((.struct false [(0, .int), (1, .int)]), (some (.pointer none)))) v32 v33 v42 h) fun _ h =>
K (.bool true) h) ∧
(kP (makeMapD true none h) fun v43 h =>
ldD .one v31 h = some v32 ∧
ldD (.agg 2) v0 h = some v33 ∧
ldD .one v35 h = some v36 ∧
kP (makeMapD true none h) fun v44 h =>
ldD .one v31 h = some v32 ∧
ldD (.agg 2) v0 h = some v33 ∧
ldD .one v35 h = some v36 ∧
kv (buildD (.struct [(.slice none 0 0), (.slice none 0 0), (.map none), (.bool false), (.bool false), (.map none), (.slice none 0 0)] [(0, 1), (1, 1), (2, 1), (3, 1), (4, 1), (5, 1), (6, 1)]) [(0, v37), (1, v38), (2, v44), (5, v43)]) fun v45 =>
kP (newD none v45 h) fun v46 h =>
ldD .one v31 h = some v32 ∧
ldD (.agg 2) v0 h = some v33 ∧
kH (mapUpdateD (some ((.struct false [(0, .int), (1, .int)]), (some (.pointer none)))) v32 v33 v46 h) fun _ h =>
K (.bool true) h)) ∧
(kP (makeMapD true none h) fun v47 h =>
ldD .one v31 h = some v32 ∧
ldD (.agg 2) v0 h = some v33 ∧
ldD .one v35 h = some v36 ∧
(cl (F.op_Parts E) [a2, v36] h fun v48 h =>
ldD .one v31 h = some v32 ∧
ldD (.agg 2) v0 h = some v33 ∧
kP (makeMapD true none h) fun v49 h =>
ldD .one v31 h = some v32 ∧
ldD (.agg 2) v0 h = some v33 ∧
ldD .one v35 h = some v36 ∧
kv (buildD (.struct [(.slice none 0 0), (.slice none 0 0), (.map none), (.bool false), (.bool false), (.map none), (.slice none 0 0)] [(0, 1), (1, 1), (2, 1), (3, 1), (4, 1), (5, 1), (6, 1)]) [(0, v37), (1, v48), (2, v47), (5, v49)]) fun v50 =>
kP (newD none v50 h) fun v51 h =>
ldD .one v31 h = some v32 ∧
ldD (.agg 2) v0 h = some v33 ∧
kH (mapUpdateD (some ((.struct false [(0, .int), (1, .int)]), (some (.pointer none)))) v32 v33 v51 h) fun _ h =>
K (.bool true) h) ∧
(kP (makeMapD true none h) fun v52 h =>
ldD .one v31 h = some v32 ∧
ldD (.agg 2) v0 h = some v33 ∧
ldD .one v35 h = some v36 ∧
cl (F.op_Parts E) [a2, v36] h fun v53 h =>
ldD .one v31 h = some v32 ∧
ldD (.agg 2) v0 h = some v33 ∧
kv (buildD (.struct [(.slice none 0 0), (.slice none 0 0), (.map none), (.bool false), (.bool false), (.map none), (.slice none 0 0)] [(0, 1), (1, 1), (2, 1), (3, 1), (4, 1), (5, 1), (6, 1)]) [(0, v37), (1, v53), (2, v47), (5, v52)]) fun v54 =>
kP (newD none v54 h) fun v55 h =>
ldD .one v31 h = some v32 ∧
ldD (.agg 2) v0 h = some v33 ∧
kH (mapUpdateD (some ((.struct false [(0, .int), (1, .int)]), (some (.pointer none)))) v32 v33 v55 h) fun _ h =>
K (.bool true) h))) ∧
(kP (makeMapD true none h) fun v56 h =>
ldD .one v31 h = some v32 ∧
ldD (.agg 2) v0 h = some v33 ∧
ldD .one v35 h = some v36 ∧
(cl (F.op_Parts E) [a2, v36] h fun v57 h =>
ldD .one v31 h = some v32 ∧
ldD (.agg 2) v0 h = some v33 ∧
kP (makeMapD true none h) fun v58 h =>
ldD .one v31 h = some v32 ∧
ldD (.agg 2) v0 h = some v33 ∧
ldD .one v35 h = some v36 ∧
kv (buildD (.struct [(.slice none 0 0), (.slice none 0 0), (.map none), (.bool false), (.bool false), (.map none), (.slice none 0 0)] [(0, 1), (1, 1), (2, 1), (3, 1), (4, 1), (5, 1), (6, 1)]) [(0, v37), (1, v57), (2, v58), (5, v56)]) fun v59 =>
kP (newD none v59 h) fun v60 h =>
ldD .one v31 h = some v32 ∧
ldD (.agg 2) v0 h = some v33 ∧
kH (mapUpdateD (some ((.struct false [(0, .int), (1, .int)]), (some (.pointer none)))) v32 v33 v60 h) fun _ h =>
K (.bool true) h) ∧
(kP (makeMapD true none h) fun v61 h =>
ldD .one v31 h = some v32 ∧
ldD (.agg 2) v0 h = some v33 ∧
ldD .one v35 h = some v36 ∧
cl (F.op_Parts E) [a2, v36] h fun v62 h =>
ldD .one v31 h = some v32 ∧
ldD (.agg 2) v0 h = some v33 ∧
kv (buildD (.struct [(.slice none 0 0), (.slice none 0 0), (.map none), (.bool false), (.bool false), (.map none), (.slice none 0 0)] [(0, 1), (1, 1), (2, 1), (3, 1), (4, 1), (5, 1), (6, 1)]) [(0, v37), (1, v62), (2, v61), (5, v56)]) fun v63 =>
kP (newD none v63 h) fun v64 h =>
ldD .one v31 h = some v32 ∧
ldD (.agg 2) v0 h = some v33 ∧
kH (mapUpdateD (some ((.struct false [(0, .int), (1, .int)]), (some (.pointer none)))) v32 v33 v64 h) fun _ h =>
K (.bool true) h))) ∧
(kP (makeMapD true none h) fun v65 h =>
ldD .one v31 h = some v32 ∧
ldD (.agg 2) v0 h = some v33 ∧
ldD .one v35 h = some v36 ∧
(cl (F.slices_Clone_Sapi_Op_api_Op E) [a2] h fun v66 h =>
ldD .one v31 h = some v32 ∧
ldD (.agg 2) v0 h = some v33 ∧
ldD .one v35 h = some v36 ∧
(cl (F.op_Parts E) [a2, v36] h fun v67 h =>
ldD .one v31 h = some v32 ∧
ldD (.agg 2) v0 h = some v33 ∧
kP (makeMapD true none h) fun v68 h =>
ldD .one v31 h = some v32 ∧
ldD (.agg 2) v0 h = some v33 ∧
ldD .one v35 h = some v36 ∧
kv (buildD (.struct [(.slice none 0 0), (.slice none 0 0), (.map none), (.bool false), (.bool false), (.map none), (.slice none 0 0)] [(0, 1), (1, 1), (2, 1), (3, 1), (4, 1), (5, 1), (6, 1)]) [(0, v66), (1, v67), (2, v65), (5, v68)]) fun v69 =>
kP (newD none v69 h) fun v70 h =>
ldD .one v31 h = some v32 ∧
ldD (.agg 2) v0 h = some v33 ∧
kH (mapUpdateD (some ((.struct false [(0, .int), (1, .int)]), (some (.pointer none)))) v32 v33 v70 h) fun _ h =>
K (.bool true) h) ∧
(kP (makeMapD true none h) fun v71 h =>
ldD .one v31 h = some v32 ∧
ldD (.agg 2) v0 h = some v33 ∧
ldD .one v35 h = some v36 ∧
cl (F.op_Parts E) [a2, v36] h fun v72 h =>
ldD .one v31 h = some v32 ∧
ldD (.agg 2) v0 h = some v33 ∧
kv (buildD (.struct [(.slice none 0 0), (.slice none 0 0), (.map none), (.bool false), (.bool false), (.map none), (.slice none 0 0)] [(0, 1), (1, 1), (2, 1), (3, 1), (4, 1), (5, 1), (6, 1)]) [(0, v66), (1, v72), (2, v65), (5, v71)]) fun v73 =>
kP (newD none v73 h) fun v74 h =>
ldD .one v31 h = some v32 ∧
ldD (.agg 2) v0 h = some v33 ∧
kH (mapUpdateD (some ((.struct false [(0, .int), (1, .int)]), (some (.pointer none)))) v32 v33 v74 h) fun _ h =>
K (.bool true) h)) ∧
(kP (makeMapD true none h) fun v75 h =>
ldD .one v31 h = some v32 ∧
ldD (.agg 2) v0 h = some v33 ∧
ldD .one v35 h = some v36 ∧
cl (F.slices_Clone_Sapi_Op_api_Op E) [a2] h fun v76 h =>
ldD .one v31 h = some v32 ∧
ldD (.agg 2) v0 h = some v33 ∧
ldD .one v35 h = some v36 ∧
cl (F.op_Parts E) [a2, v36] h fun v77 h =>
ldD .one v31 h = some v32 ∧
ldD (.agg 2) v0 h = some v33 ∧
kv (buildD (.struct [(.slice none 0 0), (.slice none 0 0), (.map none), (.bool false), (.bool false), (.map none), (.slice none 0 0)] [(0, 1), (1, 1), (2, 1), (3, 1), (4, 1), (5, 1), (6, 1)]) [(0, v76), (1, v77), (2, v65), (5, v75)]) fun v78 =>
kP (newD none v78 h) fun v79 h =>
ldD .one v31 h = some v32 ∧
ldD (.agg 2) v0 h = some v33 ∧
kH (mapUpdateD (some ((.struct false [(0, .int), (1, .int)]), (some (.pointer none)))) v32 v33 v79 h) fun _ h =>
K (.bool true) h))) ∧
(kP (makeMapD true none h) fun v80 h =>
ldD .one v31 h = some v32 ∧
ldD (.agg 2) v0 h = some v33 ∧
ldD .one v35 h = some v36 ∧
(cl (F.slices_Clone_Sapi_Op_api_Op E) [a2] h fun v81 h =>
ldD .one v31 h = some v32 ∧
ldD (.agg 2) v0 h = some v33 ∧
ldD .one v35 h = some v36 ∧
(cl (F.op_Parts E) [a2, v36] h fun v82 h =>
ldD .one v31 h = some v32 ∧
ldD (.agg 2) v0 h = some v33 ∧
kP (makeMapD true none h) fun v83 h =>
ldD .one v31 h = some v32 ∧
ldD (.agg 2) v0 h = some v33 ∧
ldD .one v35 h = some v36 ∧
kv (buildD (.struct [(.slice none 0 0), (.slice none 0 0), (.map none), (.bool false), (.bool false), (.map none), (.slice none 0 0)] [(0, 1), (1, 1), (2, 1), (3, 1), (4, 1), (5, 1), (6, 1)]) [(0, v81), (1, v82), (2, v83), (5, v80)]) fun v84 =>
kP (newD none v84 h) fun v85 h =>
ldD .one v31 h = some v32 ∧
ldD (.agg 2) v0 h = some v33 ∧
kH (mapUpdateD (some ((.struct false [(0, .int), (1, .int)]), (some (.pointer none)))) v32 v33 v85 h) fun _ h =>
K (.bool true) h) ∧
(kP (makeMapD true none h) fun v86 h =>
ldD .one v31 h = some v32 ∧
ldD (.agg 2) v0 h = some v33 ∧
ldD .one v35 h = some v36 ∧
cl (F.op_Parts E) [a2, v36] h fun v87 h =>
ldD .one v31 h = some v32 ∧
ldD (.agg 2) v0 h = some v33 ∧
kv (buildD (.struct [(.slice none 0 0), (.slice none 0 0), (.map none), (.bool false), (.bool false), (.map none), (.slice none 0 0)] [(0, 1), (1, 1), (2, 1), (3, 1), (4, 1), (5, 1), (6, 1)]) [(0, v81), (1, v87), (2, v86), (5, v80)]) fun v88 =>
kP (newD none v88 h) fun v89 h =>
ldD .one v31 h = some v32 ∧
ldD (.agg 2) v0 h = some v33 ∧
kH (mapUpdateD (some ((.struct false [(0, .int), (1, .int)]), (some (.pointer none)))) v32 v33 v89 h) fun _ h =>
K (.bool true) h)) ∧
(kP (makeMapD true none h) fun v90 h =>
ldD .one v31 h = some v32 ∧
ldD (.agg 2) v0 h = some v33 ∧
ldD .one v35 h = some v36 ∧
cl (F.slices_Clone_Sapi_Op_api_Op E) [a2] h fun v91 h =>
ldD .one v31 h = some v32 ∧
ldD (.agg 2) v0 h = some v33 ∧
ldD .one v35 h = some v36 ∧
cl (F.op_Parts E) [a2, v36] h fun v92 h =>
ldD .one v31 h = some v32 ∧
ldD (.agg 2) v0 h = some v33 ∧
kv (buildD (.struct [(.slice none 0 0), (.slice none 0 0), (.map none), (.bool false), (.bool false), (.map none), (.slice none 0 0)] [(0, 1), (1, 1), (2, 1), (3, 1), (4, 1), (5, 1), (6, 1)]) [(0, v91), (1, v92), (2, v90), (5, v80)]) fun v93 =>
kP (newD none v93 h) fun v94 h =>
ldD .one v31 h = some v32 ∧
ldD (.agg 2) v0 h = some v33 ∧
kH (mapUpdateD (some ((.struct false [(0, .int), (1, .int)]), (some (.pointer none)))) v32 v33 v94 h) fun _ h =>
K (.bool true) h)))
| _ => False
def F.slices_insertionSortCmpFunc_api_Id (E : FE) : Spec := fun args h K => match args with
| [a0, a1, a2, a3] =>
kv (binD .bad .add true a1 (.int .i64 1) h) fun v0 =>
∃ (Inv1 : Nat → List V → AHeap → Prop) (n1 : Nat), Inv1 n1 [v0] h ∧ ∀ (n1 : Nat) (e1 : Nat → V) (h : AHeap), Inv1 n1 [(e1 8)] h →
kv (binD .bad .lss false (e1 8) a2 h) fun v2 =>
ifV v2 (
∃ (Inv3 : Nat → List V → AHeap → Prop) (n3 : Nat), Inv3 n3 [(e1 8)] h ∧ ∀ (n3 : Nat) (e3 : Nat → V) (h : AHeap), Inv3 n3 [(e3 9)] h →
kv (binD .bad .gtr false (e3 9) a1 h) fun v4 =>
kv (gdV v4 true (some a3)) fun v5 =>
kv (gdV v4 true (some a0)) fun v6 =>
kv (gdV v4 true (some (e3 9))) fun v7 =>
kv (gdV v4 true (indexAddrD (.slice 2) v6 v7)) fun v8 =>
kv (gdV v4 true (ldD (.agg 2) v8 h)) fun v9 =>
kv (gdV v4 true (some a0)) fun v10 =>
kv (gdV v4 true (some (e3 9))) fun v11 =>
kv (gdV v4 true (binD .bad .sub true v11 (.int .i64 1) h)) fun v12 =>
kv (gdV v4 true (indexAddrD (.slice 2) v10 v12)) fun v13 =>
kv (gdV v4 true (ldD (.agg 2) v13 h)) fun v14 =>
gdC v4 true h (fun K15 => aCall E.I v5 [v9, v14] h fun v h => K15 v h) fun v16 h =>
kv (gdV v4 true (binD .bad .lss true v16 (.int .i64 0) h)) fun v17 =>
kv (pickV v4 v17 (.bool false)) fun v18 =>
ifV v18 (
kv (binD .bad .sub true (e3 9) (.int .i64 1) h) fun v19 =>
kv (binD .bad .sub true (e3 9) (.int .i64 1) h) fun v20 =>
kv (indexAddrD (.slice 2) a0 v20) fun v21 =>
kv (ldD (.agg 2) v21 h) fun v22 =>
kv (indexAddrD (.slice 2) a0 (e3 9)) fun v23 =>
kv (ldD (.agg 2) v23 h) fun v24 =>
kv (indexAddrD (.slice 2) a0 (e3 9)) fun v25 =>
kH (stD (some 2) v25 v22 h) fun _ h =>
kv (indexAddrD (.slice 2) a0 v19) fun v26 =>
kH (stD (some 2) v26 v24 h) fun _ h =>
kv (binD .bad .sub true (e3 9) (.int .i64 1) h) fun v27 =>
∃ m, m < n3 ∧ Inv3 m [v27] h) (
kv (binD .bad .add true (e1 8) (.int .i64 1) h) fun v28 =>
∃ m, m < n1 ∧ Inv1 m [v28] h)) (
K (.tuple #[]) h)
| _ => False
def F.desk_trans_has (E : FE) : Spec := fun args h K => match args with
| [a0, a1] =>
kv (binD .bad .geq true a1 (.int .i64 0) h) fun v0 =>
kv (gdV v0 true (some a1)) fun v1 =>
kv (gdV v0 true (some a0)) fun v2 =>
kv (gdV v0 true (aNil v2)) fun v3 =>
kv (gdV v0 true (fieldAddrD (some 1) v3)) fun v4 =>
kv (gdV v0 true (ldD .one v4 h)) fun v5 =>
kv (gdV v0 true (lenD .slice v5 h)) fun v6 =>
kv (gdV v0 true (binD .bad .lss false v1 v6 h)) fun v7 =>
kv (pickV v0 v7 (.bool false)) fun v8 =>
kv (gdV v8 true (some a0)) fun v9 =>
kv (gdV v8 true (aNil v9)) fun v10 =>
kv (gdV v8 true (fieldAddrD (some 1) v10)) fun v11 =>
kv (gdV v8 true (ldD .one v11 h)) fun v12 =>
kv (gdV v8 true (some a1)) fun v13 =>
kv (gdV v8 true (indexAddrD (.slice 1) v12 v13)) fun v14 =>
kv (gdV v8 true (ldD .one v14 h)) fun v15 =>
kv (gdV v8 true (lenD .slice v15 h)) fun v16 =>
kv (gdV v8 true (binD .bad .gtr true v16 (.int .i64 0) h)) fun v17 =>
kv (pickV v8 v17 (.bool false)) fun v18 =>
K v18 h
| _ => False
def F.desk_trans_shards (E : FE) : Spec := fun args h K => match args with
| [a0] =>
kv (aNil a0) fun v0 =>
kv (fieldAddrD (some 1) v0) fun v1 =>
kv (ldD .one v1 h) fun v2 =>
kv (lenD .slice v2 h) fun v3 =>
∃ (Inv4 : Nat → List V → AHeap → Prop) (n4 : Nat), Inv4 n4 [(.slice none 0 0), (.int .i64 0)] h ∧ ∀ (n4 : Nat) (e4 : Nat → V) (h : AHeap), Inv4 n4 [(e4 3), (e4 10)] h →
kv (binD .bad .lss false (e4 10) v3 h) fun v5 =>
ifV v5 (
cl (F.desk_trans_has E) [a0, (e4 10)] h fun v6 h =>
ifV v6 (
kP (buildSliceD (some (1, [(.int .i64 0)])) 1 [(0, (e4 10))] h) fun v7 h =>
kP (appendD (some (1, 8, [(.int .i64 0)])) (e4 3) v7 h) fun v8 h =>
kv (binD .bad .add true (e4 10) (.int .i64 1) h) fun v9 =>
∃ m, m < n4 ∧ Inv4 m [v8, v9] h) (
kv (binD .bad .add true (e4 10) (.int .i64 1) h) fun v10 =>
∃ m, m < n4 ∧ Inv4 m [(e4 3), v10] h)) (
K (e4 3) h)
| _ => False
def F.slices_Clone_Sstring_string (E : FE) : Spec := fun args h K => match args with
| [a0] =>
kv (binD .slice .eql true a0 (.slice none 0 0) h) fun v0 =>
ifV v0 (
K (.slice none 0 0) h) (
kP (buildSliceD (some (1, [(.string ⟨#[]⟩)])) 0 [] h) fun v1 h =>
kP (appendD (some (1, 16, [(.string ⟨#[]⟩)])) v1 a0 h) fun v2 h =>
K v2 h)
| _ => False
def F.desk_Desk_keep (E : FE) : Spec := fun args h K => match args with
| [a0, a1, a2] =>
kP (newD none a1 h) fun v0 h =>
kv (ldD (.agg 2) v0 h) fun v1 =>
kv (buildD (.struct [(.int .i64 0), (.int .i64 0), (.int .i64 0), (.slice none 0 0)] [(0, 2), (2, 1), (3, 1)]) [(0, v1), (1, (.int .i64 4))]) fun v2 =>
kP (newD none (.agg #[(.int .i64 0), (.int .i64 0), (.int .i64 0), (.slice none 0 0)]) h) fun v3 h =>
kH (stD (some 4) v3 v2 h) fun _ h =>
kv (aNil a2) fun v4 =>
kv (fieldAddrD (some 4) v4) fun v5 =>
kv (ldD .one v5 h) fun v6 =>
∃ K7 : List V → AHeap → Prop, (
ifV v6 (
∃ K8 : List V → AHeap → Prop, (
kv (aNil a2) fun v9 =>
kv (fieldAddrD (some 0) v9) fun v10 =>
kv (ldD .one v10 h) fun v11 =>
kv (lenD .slice v11 h) fun v12 =>
kv (aNil a2) fun v13 =>
kv (fieldAddrD (some 0) v13) fun v14 =>
kv (ldD .one v14 h) fun v15 =>
kv (lenD .slice v15 h) fun v16 =>
kv (fieldAddrD (some 2) v3) fun v17 =>
((kP (makeSliceD (some (1, 16, [(.string ⟨#[]⟩)])) v12 v12 h) fun v18 h =>
ldD .one v14 h = some v15 ∧
(kP (makeSliceD (some (1, 8, [(.int .i64 0)])) v16 v16 h) fun v19 h =>
ldD .one v10 h = some v11 ∧
kH (stD (some 1) v17 (.int .i64 0) h) fun _ h =>
ldD .one v10 h = some v11 ∧
ldD .one v14 h = some v15 ∧
kv (fieldAddrD (some 3) v3) fun v20 =>
kH (stD (some 1) v20 v18 h) fun _ h =>
ldD .one v14 h = some v15 ∧
kv (aNil a2) fun v21 =>
kv (fieldAddrD (some 6) v21) fun v22 =>
kH (stD (some 1) v22 v19 h) fun _ h =>
K8 [] h) ∧
(kH (stD (some 1) v17 (.int .i64 0) h) fun _ h =>
ldD .one v10 h = some v11 ∧
ldD .one v14 h = some v15 ∧
kv (fieldAddrD (some 3) v3) fun v23 =>
(kP (makeSliceD (some (1, 8, [(.int .i64 0)])) v16 v16 h) fun v24 h =>
ldD .one v10 h = some v11 ∧
kH (stD (some 1) v23 v18 h) fun _ h =>
ldD .one v14 h = some v15 ∧
kv (aNil a2) fun v25 =>
kv (fieldAddrD (some 6) v25) fun v26 =>
kH (stD (some 1) v26 v24 h) fun _ h =>
K8 [] h) ∧
(kH (stD (some 1) v23 v18 h) fun _ h =>
ldD .one v14 h = some v15 ∧
kP (makeSliceD (some (1, 8, [(.int .i64 0)])) v16 v16 h) fun v27 h =>
ldD .one v10 h = some v11 ∧
kv (aNil a2) fun v28 =>
kv (fieldAddrD (some 6) v28) fun v29 =>
kH (stD (some 1) v29 v27 h) fun _ h =>
K8 [] h))) ∧
(kP (makeSliceD (some (1, 8, [(.int .i64 0)])) v16 v16 h) fun v30 h =>
ldD .one v10 h = some v11 ∧
(kP (makeSliceD (some (1, 16, [(.string ⟨#[]⟩)])) v12 v12 h) fun v31 h =>
ldD .one v14 h = some v15 ∧
kH (stD (some 1) v17 (.int .i64 0) h) fun _ h =>
ldD .one v10 h = some v11 ∧
ldD .one v14 h = some v15 ∧
kv (fieldAddrD (some 3) v3) fun v32 =>
kH (stD (some 1) v32 v31 h) fun _ h =>
ldD .one v14 h = some v15 ∧
kv (aNil a2) fun v33 =>
kv (fieldAddrD (some 6) v33) fun v34 =>
kH (stD (some 1) v34 v30 h) fun _ h =>
K8 [] h) ∧
(kH (stD (some 1) v17 (.int .i64 0) h) fun _ h =>
ldD .one v10 h = some v11 ∧
ldD .one v14 h = some v15 ∧
kP (makeSliceD (some (1, 16, [(.string ⟨#[]⟩)])) v12 v12 h) fun v35 h =>
ldD .one v14 h = some v15 ∧
kv (fieldAddrD (some 3) v3) fun v36 =>
kH (stD (some 1) v36 v35 h) fun _ h =>
ldD .one v14 h = some v15 ∧
kv (aNil a2) fun v37 =>
kv (fieldAddrD (some 6) v37) fun v38 =>
kH (stD (some 1) v38 v30 h) fun _ h =>
K8 [] h))) ∧
(kH (stD (some 1) v17 (.int .i64 0) h) fun _ h =>
ldD .one v10 h = some v11 ∧
ldD .one v14 h = some v15 ∧
(kP (makeSliceD (some (1, 16, [(.string ⟨#[]⟩)])) v12 v12 h) fun v39 h =>
ldD .one v14 h = some v15 ∧
kv (fieldAddrD (some 3) v3) fun v40 =>
(kP (makeSliceD (some (1, 8, [(.int .i64 0)])) v16 v16 h) fun v41 h =>
ldD .one v10 h = some v11 ∧
kH (stD (some 1) v40 v39 h) fun _ h =>
ldD .one v14 h = some v15 ∧
kv (aNil a2) fun v42 =>
kv (fieldAddrD (some 6) v42) fun v43 =>
kH (stD (some 1) v43 v41 h) fun _ h =>
K8 [] h) ∧
(kH (stD (some 1) v40 v39 h) fun _ h =>
ldD .one v14 h = some v15 ∧
kP (makeSliceD (some (1, 8, [(.int .i64 0)])) v16 v16 h) fun v44 h =>
ldD .one v10 h = some v11 ∧
kv (aNil a2) fun v45 =>
kv (fieldAddrD (some 6) v45) fun v46 =>
kH (stD (some 1) v46 v44 h) fun _ h =>
K8 [] h)) ∧
(kP (makeSliceD (some (1, 8, [(.int .i64 0)])) v16 v16 h) fun v47 h =>
ldD .one v10 h = some v11 ∧
kP (makeSliceD (some (1, 16, [(.string ⟨#[]⟩)])) v12 v12 h) fun v48 h =>
ldD .one v14 h = some v15 ∧
kv (fieldAddrD (some 3) v3) fun v49 =>
kH (stD (some 1) v49 v48 h) fun _ h =>
ldD .one v14 h = some v15 ∧
kv (aNil a2) fun v50 =>
kv (fieldAddrD (some 6) v50) fun v51 =>
kH (stD (some 1) v51 v47 h) fun _ h =>
K8 [] h))) ∧ ∀ (e8 : Nat → V) (h : AHeap), K8 [] h →
kv (aNil a2) fun v52 =>
kv (fieldAddrD (some 2) v52) fun v53 =>
kv (ldD .one v53 h) fun v54 =>
kP (rangeD .map v54 h) fun v55 h =>
∃ (Inv56 : Nat → List V → AHeap → Prop) (n56 : Nat), Inv56 n56 [] h ∧ ∀ (n56 : Nat) (e56 : Nat → V) (h : AHeap), Inv56 n56 [] h →
aNext v55 false h fun v57 h =>
kv (aExtract v57 0) fun v58 =>
ifV v58 (
kV (aEntry v55 h) h fun v59 h =>
kv (aExtract v59 0) fun v60 =>
kv (aExtract v59 1) fun v61 =>
kP (newD none (.agg #[(.int .i64 0), (.int .i64 0), (.int .i64 0), (.bool false), (.int .i64 0), (.slice none 0 0)]) h) fun v62 h =>
kH (stD (some 6) v62 v61 h) fun _ h =>
kv (aNil a2) fun v63 =>
kv (fieldAddrD (some 1) v63) fun v64 =>
kv (ldD .one v64 h) fun v65 =>
kv (indexAddrD (.slice 1) v65 v60) fun v66 =>
kv (ldD .one v66 h) fun v67 =>
kv (lenD .slice v67 h) fun v68 =>
∃ (Inv69 : Nat → List V → AHeap → Prop) (n69 : Nat), Inv69 n69 [(.int .i64 0)] h ∧ ∀ (n69 : Nat) (e69 : Nat → V) (h : AHeap), Inv69 n69 [(e69 53)] h →
kv (binD .bad .lss false (e69 53) v68 h) fun v70 =>
ifV v70 (
kv (indexAddrD (.slice 1) v67 (e69 53)) fun v71 =>
kv (ldD .one v71 h) fun v72 =>
kv (fieldAddrD (some 3) v3) fun v73 =>
kv (ldD .one v73 h) fun v74 =>
kv (aNil a2) fun v75 =>
kv (fieldAddrD (some 6) v75) fun v76 =>
kv (ldD .one v76 h) fun v77 =>
kv (fieldAddrD (some 5) v62) fun v78 =>
kv (ldD .one v78 h) fun v79 =>
kv (indexAddrD (.slice 1) v79 (e69 53)) fun v80 =>
kv (ldD .one v80 h) fun v81 =>
kv (fieldAddrD (some 4) v62) fun v82 =>
kv (ldD .one v82 h) fun v83 =>
kv (indexAddrD (.slice 1) v74 v72) fun v84 =>
kH (stD (some 1) v84 v81 h) fun _ h =>
ldD .one v82 h = some v83 ∧
kv (indexAddrD (.slice 1) v77 v72) fun v85 =>
kH (stD (some 1) v85 v83 h) fun _ h =>
kv (binD .bad .add true (e69 53) (.int .i64 1) h) fun v86 =>
∃ m, m < n69 ∧ Inv69 m [v86] h) (
∃ m, m < n56 ∧ Inv56 m [] h)) (
K7 [] h)) (
K7 [] h)) ∧ ∀ (e7 : Nat → V) (h : AHeap), K7 [] h →
kv (aNil a0) fun v87 =>
kv (fieldAddrD (some 3) v87) fun v88 =>
kv (ldD .one v88 h) fun v89 =>
kv (fieldAddrD (some 0) v0) fun v90 =>
kv (ldD .one v90 h) fun v91 =>
kv (lookupD (some (.int, (some (.slice none 0 0)))) v89 v91 false h) fun v92 =>
kv (ldD (.agg 4) v3 h) fun v93 =>
kP (buildSliceD (some (4, [(.int .i64 0), (.int .i64 0), (.int .i64 0), (.slice none 0 0)])) 1 [(0, v93)] h) fun v94 h =>
ldD .one v88 h = some v89 ∧
ldD .one v90 h = some v91 ∧
lookupD (some (.int, (some (.slice none 0 0)))) v89 v91 false h = some v92 ∧
kP (appendD (some (4, 48, [(.int .i64 0), (.int .i64 0), (.int .i64 0), (.slice none 0 0)])) v92 v94 h) fun v95 h =>
kv (aNil a0) fun v96 =>
kv (fieldAddrD (some 3) v96) fun v97 =>
kv (ldD .one v97 h) fun v98 =>
kv (fieldAddrD (some 0) v0) fun v99 =>
kv (ldD .one v99 h) fun v100 =>
kv (lenD .slice v95 h) fun v101 =>
kv (binD .bad .sub true v101 (.int .i64 8) h) fun v102 =>
kv (aMinMax true [v102, (.int .i64 0)]) fun v103 =>
kv (sliceD (.slice 4) v95 (some v103) none none h) fun v104 =>
kH (mapUpdateD (some (.int, (some (.slice none 0 0)))) v98 v100 v104 h) fun _ h =>
K (.tuple #[]) h
| _ => False
def F.desk_Desk_Vote (E : FE) : Spec := fun args h K => match args with
| [a0, a1] =>
kP (newD none a1 h) fun v0 h =>
kv (binD (.ptr true) .eql true a0 (.pointer none) h) fun v1 =>
ifV v1 (
K (.bool false) h) (
kv (aNil a0) fun v2 =>
kv (fieldAddrD (some 2) v2) fun v3 =>
kv (ldD .one v3 h) fun v4 =>
kv (fieldAddrD (some 0) v0) fun v5 =>
kv (ldD (.agg 2) v5 h) fun v6 =>
kv (lookupD (some ((.struct false [(0, .int), (1, .int)]), (some (.pointer none)))) v4 v6 false h) fun v7 =>
kv (binD (.ptr true) .eql true v7 (.pointer none) h) fun v8 =>
kv (gdV v8 false (some v7)) fun v9 =>
kv (gdV v8 false (aNil v9)) fun v10 =>
kv (gdV v8 false (fieldAddrD (some 3) v10)) fun v11 =>
kv (gdV v8 false (ldD .one v11 h)) fun v12 =>
kv (pickV v8 (.bool true) v12) fun v13 =>
kv (gdV v13 false (some v7)) fun v14 =>
kv (gdV v13 false (fieldAddrD (some 2) v0)) fun v15 =>
kv (gdV v13 false (ldD .one v15 h)) fun v16 =>
gdC v13 false h (fun K17 => cl (F.desk_trans_has E) [v14, v16] h fun v h => K17 v h) fun v18 h =>
kv (gdV v13 false (aUn .not v18)) fun v19 =>
kv (pickV v13 (.bool true) v19) fun v20 =>
ifV v20 (
K (.bool false) h) (
kv (aNil v7) fun v21 =>
kv (fieldAddrD (some 2) v21) fun v22 =>
kv (ldD .one v22 h) fun v23 =>
kv (fieldAddrD (some 2) v0) fun v24 =>
kv (ldD .one v24 h) fun v25 =>
kv (lookupD (some (.int, (some (.agg #[(.int .i64 0), (.int .i64 0), (.int .i64 0), (.bool false), (.int .i64 0), (.slice none 0 0)])))) v23 v25 true h) fun v26 =>
kv (aExtract v26 0) fun v27 =>
kv (aExtract v26 1) fun v28 =>
kP (newD none (.agg #[(.int .i64 0), (.int .i64 0), (.int .i64 0), (.bool false), (.int .i64 0), (.slice none 0 0)]) h) fun v29 h =>
ldD .one v22 h = some v23 ∧
ldD .one v24 h = some v25 ∧
lookupD (some (.int, (some (.agg #[(.int .i64 0), (.int .i64 0), (.int .i64 0), (.bool false), (.int .i64 0), (.slice none 0 0)])))) v23 v25 true h = some v26 ∧
kH (stD (some 6) v29 v27 h) fun _ h =>
kv (gdV v28 false (fieldAddrD (some 3) v0)) fun v30 =>
kv (gdV v28 false (ldD .one v30 h)) fun v31 =>
kv (gdV v28 false (some v31)) fun v32 =>
kv (gdV v32 true (fieldAddrD (some 5) v0)) fun v33 =>
kv (gdV v32 true (ldD .one v33 h)) fun v34 =>
kv (gdV v32 true (lenD .slice v34 h)) fun v35 =>
kv (gdV v32 true (some v7)) fun v36 =>
kv (gdV v32 true (aNil v36)) fun v37 =>
kv (gdV v32 true (fieldAddrD (some 1) v37)) fun v38 =>
kv (gdV v32 true (ldD .one v38 h)) fun v39 =>
kv (gdV v32 true (fieldAddrD (some 2) v0)) fun v40 =>
kv (gdV v32 true (ldD .one v40 h)) fun v41 =>
kv (gdV v32 true (indexAddrD (.slice 1) v39 v41)) fun v42 =>
kv (gdV v32 true (ldD .one v42 h)) fun v43 =>
kv (gdV v32 true (lenD .slice v43 h)) fun v44 =>
kv (gdV v32 true (binD .bad .neq false v35 v44 h)) fun v45 =>
kv (gdV v28 false (pickV v32 v45 (.bool false))) fun v46 =>
kv (pickV v28 (.bool true) v46) fun v47 =>
ifV v47 (
K (.bool false) h) (
kv (fieldAddrD (some 5) v0) fun v48 =>
kv (ldD .one v48 h) fun v49 =>
cl (F.slices_Clone_Sstring_string E) [v49] h fun v50 h =>
kv (fieldAddrD (some 5) v0) fun v51 =>
kH (stD (some 1) v51 v50 h) fun _ h =>
kv (aNil v7) fun v52 =>
kv (fieldAddrD (some 2) v52) fun v53 =>
kv (ldD .one v53 h) fun v54 =>
kv (fieldAddrD (some 2) v0) fun v55 =>
kv (ldD .one v55 h) fun v56 =>
kv (ldD (.agg 6) v0 h) fun v57 =>
kH (mapUpdateD (some (.int, (some (.agg #[(.int .i64 0), (.int .i64 0), (.int .i64 0), (.bool false), (.int .i64 0), (.slice none 0 0)])))) v54 v56 v57 h) fun _ h =>
kv (fieldAddrD (some 3) v0) fun v58 =>
kv (ldD .one v58 h) fun v59 =>
kv (gdV v59 true (some v7)) fun v60 =>
kv (gdV v59 true (aNil v60)) fun v61 =>
kv (gdV v59 true (fieldAddrD (some 2) v61)) fun v62 =>
kv (gdV v59 true (ldD .one v62 h)) fun v63 =>
kv (gdV v59 true (lenD .map v63 h)) fun v64 =>
kv (gdV v59 true (some v7)) fun v65 =>
gdC v59 true h (fun K66 => cl (F.desk_trans_shards E) [v65] h fun v h => K66 v h) fun v67 h =>
kv (gdV v59 true (lenD .slice v67 h)) fun v68 =>
kv (gdV v59 true (binD .bad .lss false v64 v68 h)) fun v69 =>
kv (pickV v59 v69 (.bool false)) fun v70 =>
ifV v70 (
K (.bool false) h) (
kv (fieldAddrD (some 3) v0) fun v71 =>
kv (ldD .one v71 h) fun v72 =>
kv (aNil v7) fun v73 =>
kv (fieldAddrD (some 3) v73) fun v74 =>
kH (stD (some 1) v74 (.bool true) h) fun _ h =>
ldD .one v71 h = some v72 ∧
kv (aNil v7) fun v75 =>
kv (fieldAddrD (some 4) v75) fun v76 =>
kH (stD (some 1) v76 v72 h) fun _ h =>
kv (fieldAddrD (some 0) v0) fun v77 =>
kv (ldD (.agg 2) v77 h) fun v78 =>
cl (F.desk_Desk_keep E) [a0, v78, v7] h fun v79 h =>
K (.bool true) h))))
| _ => False
def F.desk_Desk_Answer (E : FE) : Spec := fun args h K => match args with
| [a0, a1] =>
kP (newD none a1 h) fun v0 h =>
kP (newD none (.agg #[(.int .i64 0), (.int .i64 0), (.int .i64 0), (.slice none 0 0)]) h) fun v1 h =>
kv (binD (.ptr true) .eql true a0 (.pointer none) h) fun v2 =>
ifV v2 (
kv (buildD (.struct [(.int .i64 0), (.int .i64 0), (.int .i64 0), (.slice none 0 0)] [(0, 2), (2, 1), (3, 1)]) []) fun v3 =>
kH (stD (some 4) v1 v3 h) fun _ h =>
kv (ldD (.agg 4) v1 h) fun r4 =>
K (.tuple #[r4, (.bool false)]) h) (
kv (aNil a0) fun v5 =>
kv (fieldAddrD (some 3) v5) fun v6 =>
kv (ldD .one v6 h) fun v7 =>
kv (fieldAddrD (some 0) v0) fun v8 =>
kv (ldD .one v8 h) fun v9 =>
kv (lookupD (some (.int, (some (.slice none 0 0)))) v7 v9 false h) fun v10 =>
kv (lenD .slice v10 h) fun v11 =>
∃ (Inv12 : Nat → List V → AHeap → Prop) (n12 : Nat), Inv12 n12 [(.int .i64 0)] h ∧ ∀ (n12 : Nat) (e12 : Nat → V) (h : AHeap), Inv12 n12 [(e12 19)] h →
kv (binD .bad .lss false (e12 19) v11 h) fun v13 =>
ifV v13 (
kv (indexAddrD (.slice 4) v10 (e12 19)) fun v14 =>
kv (ldD (.agg 4) v14 h) fun v15 =>
kP (newD none (.agg #[(.int .i64 0), (.int .i64 0), (.int .i64 0), (.slice none 0 0)]) h) fun v16 h =>
kH (stD (some 4) v16 v15 h) fun _ h =>
kv (fieldAddrD (some 0) v16) fun v17 =>
kv (ldD (.agg 2) v17 h) fun v18 =>
kv (ldD (.agg 2) v0 h) fun v19 =>
kv (binD (.struct [(0, .int), (1, .int)]) .eql false v18 v19 h) fun v20 =>
ifV v20 (
kv (fieldAddrD (some 3) v16) fun v21 =>
kv (ldD .one v21 h) fun v22 =>
cl (F.slices_Clone_Sstring_string E) [v22] h fun v23 h =>
kv (fieldAddrD (some 3) v16) fun v24 =>
kH (stD (some 1) v24 v23 h) fun _ h =>
kv (ldD (.agg 4) v16 h) fun v25 =>
kH (stD (some 4) v1 v25 h) fun _ h =>
kv (ldD (.agg 4) v1 h) fun r26 =>
K (.tuple #[r26, (.bool true)]) h) (
kv (binD .bad .add true (e12 19) (.int .i64 1) h) fun v27 =>
∃ m, m < n12 ∧ Inv12 m [v27] h)) (
kv (ldD (.agg 2) v0 h) fun v28 =>
cl (F.op_Client E) [v28] h fun v29 h =>
kv (gdV v29 true (fieldAddrD (some 1) v0)) fun v30 =>
kv (gdV v29 true (ldD .one v30 h)) fun v31 =>
kv (gdV v29 true (some a0)) fun v32 =>
kv (gdV v29 true (aNil v32)) fun v33 =>
kv (gdV v29 true (fieldAddrD (some 1) v33)) fun v34 =>
kv (gdV v29 true (ldD .one v34 h)) fun v35 =>
kv (gdV v29 true (fieldAddrD (some 0) v0)) fun v36 =>
kv (gdV v29 true (ldD .one v36 h)) fun v37 =>
kv (gdV v29 true (lookupD (some (.int, (some (.int .i64 0)))) v35 v37 false h)) fun v38 =>
kv (gdV v29 true (binD .bad .leq false v31 v38 h)) fun v39 =>
kv (pickV v29 v39 (.bool false)) fun v40 =>
kv (gdV v40 true (some a0)) fun v41 =>
kv (gdV v40 true (aNil v41)) fun v42 =>
kv (gdV v40 true (fieldAddrD (some 2) v42)) fun v43 =>
kv (gdV v40 true (ldD .one v43 h)) fun v44 =>
kv (gdV v40 true (ldD (.agg 2) v0 h)) fun v45 =>
kv (gdV v40 true (lookupD (some ((.struct false [(0, .int), (1, .int)]), (some (.pointer none)))) v44 v45 false h)) fun v46 =>
kv (gdV v40 true (binD (.ptr true) .eql true v46 (.pointer none) h)) fun v47 =>
kv (pickV v40 v47 (.bool false)) fun v48 =>
ifV v48 (
kv (ldD (.agg 2) v0 h) fun v49 =>
kv (buildD (.struct [(.int .i64 0), (.int .i64 0), (.int .i64 0), (.slice none 0 0)] [(0, 2), (2, 1), (3, 1)]) [(0, v49), (1, (.int .i64 5))]) fun v50 =>
kH (stD (some 4) v1 v50 h) fun _ h =>
kv (ldD (.agg 4) v1 h) fun r51 =>
K (.tuple #[r51, (.bool true)]) h) (
kv (buildD (.struct [(.int .i64 0), (.int .i64 0), (.int .i64 0), (.slice none 0 0)] [(0, 2), (2, 1), (3, 1)]) []) fun v52 =>
kH (stD (some 4) v1 v52 h) fun _ h =>
kv (ldD (.agg 4) v1 h) fun r53 =>
K (.tuple #[r53, (.bool false)]) h)))
| _ => False
def F.estafetteref12_small (E : FE) : Spec := fun args h K => match args with
| [a0] =>
∃ (Inv0 : Nat → List V → AHeap → Prop) (n0 : Nat), Inv0 n0 [(.int .i64 0)] h ∧ ∀ (n0 : Nat) (e0 : Nat → V) (h : AHeap), Inv0 n0 [(e0 3)] h →
kv (lenD .str a0 h) fun v1 =>
kv (binD .bad .lss false (e0 3) v1 h) fun v2 =>
ifV v2 (
kv (indexD .str a0 (e0 3)) fun v3 =>
kv (binD .bad .lss true v3 (.int .u8 97) h) fun v4 =>
kv (gdV v4 false (some a0)) fun v5 =>
kv (gdV v4 false (some (e0 3))) fun v6 =>
kv (gdV v4 false (indexD .str v5 v6)) fun v7 =>
kv (gdV v4 false (binD .bad .gtr true v7 (.int .u8 122) h)) fun v8 =>
kv (pickV v4 (.bool true) v8) fun v9 =>
ifV v9 (
K (.bool false) h) (
kv (binD .bad .add true (e0 3) (.int .i64 1) h) fun v10 =>
∃ m, m < n0 ∧ Inv0 m [v10] h)) (
kv (lenD .str a0 h) fun v11 =>
kv (binD .bad .geq true v11 (.int .i64 1) h) fun v12 =>
kv (gdV v12 true (some a0)) fun v13 =>
kv (gdV v12 true (lenD .str v13 h)) fun v14 =>
kv (gdV v12 true (binD .bad .leq true v14 (.int .i64 20) h)) fun v15 =>
kv (pickV v12 v15 (.bool false)) fun v16 =>
K v16 h)
| _ => False
def F.estafetteref12_May (E : FE) : Spec := fun args h K => match args with
| [a0] =>
kP (newD none a0 h) fun v0 h =>
kv (fieldAddrD (some 1) v0) fun v1 =>
kv (ldD .one v1 h) fun v2 =>
cl (F.estafetteref12_small E) [v2] h fun v3 h =>
kv (aUn .not v3) fun v4 =>
kv (gdV v4 false (fieldAddrD (some 2) v0)) fun v5 =>
kv (gdV v4 false (ldD .one v5 h)) fun v6 =>
kv (gdV v4 false (lenD .str v6 h)) fun v7 =>
kv (gdV v4 false (binD .bad .gtr true v7 (.int .i64 20) h)) fun v8 =>
kv (pickV v4 (.bool true) v8) fun v9 =>
kv (gdV v9 false (fieldAddrD (some 3) v0)) fun v10 =>
kv (gdV v9 false (ldD .one v10 h)) fun v11 =>
kv (gdV v9 false (lenD .str v11 h)) fun v12 =>
kv (gdV v9 false (binD .bad .gtr true v12 (.int .i64 100) h)) fun v13 =>
kv (pickV v9 (.bool true) v13) fun v14 =>
kv (gdV v14 false (fieldAddrD (some 4) v0)) fun v15 =>
kv (gdV v14 false (ldD .one v15 h)) fun v16 =>
kv (gdV v14 false (binD .bad .lss true v16 (.int .i64 0) h)) fun v17 =>
kv (pickV v14 (.bool true) v17) fun v18 =>
kv (gdV v18 false (fieldAddrD (some 4) v0)) fun v19 =>
kv (gdV v18 false (ldD .one v19 h)) fun v20 =>
kv (gdV v18 false (binD .bad .gtr true v20 (.int .i64 1099511627776) h)) fun v21 =>
kv (pickV v18 (.bool true) v21) fun v22 =>
ifV v22 (
K (.bool false) h) (
kv (fieldAddrD (some 2) v0) fun v23 =>
kv (ldD .one v23 h) fun v24 =>
kv (binD .bad .neq true v24 (.string ⟨#[]⟩) h) fun v25 =>
kv (fieldAddrD (some 3) v0) fun v26 =>
kv (ldD .one v26 h) fun v27 =>
kv (binD .bad .neq true v27 (.string ⟨#[]⟩) h) fun v28 =>
kv (fieldAddrD (some 4) v0) fun v29 =>
kv (ldD .one v29 h) fun v30 =>
kv (binD .bad .neq true v30 (.int .i64 0) h) fun v31 =>
kv (fieldAddrD (some 0) v0) fun v32 =>
kv (ldD .one v32 h) fun v33 =>
kv (binD .bad .eql true v33 (.int .i64 1) h) fun v34 =>
ifV v34 (
kv (fieldAddrD (some 2) v0) fun v35 =>
kv (ldD .one v35 h) fun v36 =>
kv (lenD .str v36 h) fun v37 =>
kv (binD .bad .eql true v37 (.int .i64 1) h) fun v38 =>
kv (gdV v38 true (fieldAddrD (some 2) v0)) fun v39 =>
kv (gdV v38 true (ldD .one v39 h)) fun v40 =>
kv (gdV v38 true (indexD .str v40 (.int .i64 0))) fun v41 =>
kv (gdV v38 true (binD .bad .geq true v41 (.int .u8 49) h)) fun v42 =>
kv (pickV v38 v42 (.bool false)) fun v43 =>
kv (gdV v43 true (fieldAddrD (some 2) v0)) fun v44 =>
kv (gdV v43 true (ldD .one v44 h)) fun v45 =>
kv (gdV v43 true (indexD .str v45 (.int .i64 0))) fun v46 =>
kv (gdV v43 true (binD .bad .leq true v46 (.int .u8 57) h)) fun v47 =>
kv (pickV v43 v47 (.bool false)) fun v48 =>
kv (fieldAddrD (some 4) v0) fun v49 =>
kv (ldD .one v49 h) fun v50 =>
kv (binD .bad .geq true v50 (.int .i64 1) h) fun v51 =>
kv (gdV v51 true (fieldAddrD (some 4) v0)) fun v52 =>
kv (gdV v51 true (ldD .one v52 h)) fun v53 =>
kv (gdV v51 true (binD .bad .leq true v53 (.int .i64 3) h)) fun v54 =>
kv (pickV v51 v54 (.bool false)) fun v55 =>
kv (gdV v55 true (some v28)) fun v56 =>
kv (gdV v55 true (aUn .not v56)) fun v57 =>
kv (pickV v55 v57 (.bool false)) fun v58 =>
kv (gdV v58 true (some v48)) fun v59 =>
kv (gdV v58 true (some v59)) fun v60 =>
kv (gdV v60 false (some v25)) fun v61 =>
kv (gdV v60 false (aUn .not v61)) fun v62 =>
kv (gdV v60 false (some v62)) fun v63 =>
kv (gdV v63 true (fieldAddrD (some 4) v0)) fun v64 =>
kv (gdV v63 true (ldD .one v64 h)) fun v65 =>
kv (gdV v63 true (binD .bad .neq true v65 (.int .i64 2) h)) fun v66 =>
kv (gdV v60 false (pickV v63 v66 (.bool false))) fun v67 =>
kv (gdV v58 true (pickV v60 (.bool true) v67)) fun v68 =>
kv (pickV v58 v68 (.bool false)) fun v69 =>
K v69 h) (
kv (binD .bad .eql true v33 (.int .i64 2) h) fun v70 =>
∃ K71 : List V → AHeap → Prop, (
ifV v70 (
K71 [v70] h) (
kv (binD .bad .eql true v33 (.int .i64 9) h) fun v72 =>
K71 [v72] h)) ∧ ∀ (e71 : Nat → V) (h : AHeap), K71 [(e71 86)] h →
ifV (e71 86) (
kv (aUn .not v25) fun v73 =>
kv (gdV v73 true (some v28)) fun v74 =>
kv (gdV v73 true (aUn .not v74)) fun v75 =>
kv (pickV v73 v75 (.bool false)) fun v76 =>
kv (gdV v76 true (some v31)) fun v77 =>
kv (gdV v76 true (aUn .not v77)) fun v78 =>
kv (pickV v76 v78 (.bool false)) fun v79 =>
K v79 h) (
kv (binD .bad .eql true v33 (.int .i64 3) h) fun v80 =>
∃ K81 : List V → AHeap → Prop, (
ifV v80 (
K81 [v80] h) (
kv (binD .bad .eql true v33 (.int .i64 5) h) fun v82 =>
K81 [v82] h)) ∧ ∀ (e81 : Nat → V) (h : AHeap), K81 [(e81 99)] h →
ifV (e81 99) (
kv (aUn .not v28) fun v83 =>
kv (gdV v83 true (some v31)) fun v84 =>
kv (gdV v83 true (aUn .not v84)) fun v85 =>
kv (pickV v83 v85 (.bool false)) fun v86 =>
K v86 h) (
kv (binD .bad .eql true v33 (.int .i64 4) h) fun v87 =>
ifV v87 (
kv (aUn .not v31) fun v88 =>
K v88 h) (
kv (binD .bad .eql true v33 (.int .i64 6) h) fun v89 =>
∃ K90 : List V → AHeap → Prop, (
ifV v89 (
K90 [v89] h) (
kv (binD .bad .eql true v33 (.int .i64 10) h) fun v91 =>
K90 [v91] h)) ∧ ∀ (e90 : Nat → V) (h : AHeap), K90 [(e90 112)] h →
ifV (e90 112) (
kv (aUn .not v25) fun v92 =>
kv (gdV v92 true (some v31)) fun v93 =>
kv (gdV v92 true (aUn .not v93)) fun v94 =>
kv (pickV v92 v94 (.bool false)) fun v95 =>
K v95 h) (
kv (binD .bad .eql true v33 (.int .i64 7) h) fun v96 =>
ifV v96 (
kv (aUn .not v25) fun v97 =>
kv (gdV v97 true (some v28)) fun v98 =>
kv (gdV v97 true (aUn .not v98)) fun v99 =>
kv (pickV v97 v99 (.bool false)) fun v100 =>
K v100 h) (
kv (binD .bad .eql true v33 (.int .i64 8) h) fun v101 =>
∃ K102 : List V → AHeap → Prop, (
ifV v101 (
K102 [v101] h) (
kv (binD .bad .eql true v33 (.int .i64 11) h) fun v103 =>
K102 [v103] h)) ∧ ∀ (e102 : Nat → V) (h : AHeap), K102 [(e102 129)] h →
ifV (e102 129) (
kv (aUn .not v28) fun v104 =>
K v104 h) (
kv (binD .bad .eql true v33 (.int .i64 12) h) fun v105 =>
ifV v105 (
K (.bool true) h) (
K (.bool false) h)))))))))
| _ => False
def F.estafetteref12_All (E : FE) : Spec := fun args h K => match args with
| [a0] =>
∃ (Inv0 : Nat → List V → AHeap → Prop) (n0 : Nat), Inv0 n0 [(.int .i64 0)] h ∧ ∀ (n0 : Nat) (e0 : Nat → V) (h : AHeap), Inv0 n0 [(e0 3)] h →
kv (lenD .slice a0 h) fun v1 =>
kv (binD .bad .lss false (e0 3) v1 h) fun v2 =>
ifV v2 (
kv (indexAddrD (.slice 5) a0 (e0 3)) fun v3 =>
kv (ldD (.agg 5) v3 h) fun v4 =>
cl (F.estafetteref12_May E) [v4] h fun v5 h =>
kv (aUn .not v5) fun v6 =>
ifV v6 (
K (.bool false) h) (
kv (binD .bad .add true (e0 3) (.int .i64 1) h) fun v7 =>
∃ m, m < n0 ∧ Inv0 m [v7] h)) (
kv (lenD .slice a0 h) fun v8 =>
kv (binD .bad .geq true v8 (.int .i64 1) h) fun v9 =>
kv (gdV v9 true (some a0)) fun v10 =>
kv (gdV v9 true (lenD .slice v10 h)) fun v11 =>
kv (gdV v9 true (binD .bad .leq true v11 (.int .i64 8) h)) fun v12 =>
kv (pickV v9 v12 (.bool false)) fun v13 =>
K v13 h)
| _ => False
def F.estafettelaw15_begun (_ : FE) : Spec := fun args h K => args = [] ∧ K (.bool true) h
def F.estafettelaw12_Ops (E : FE) : Spec := fun args h K => match args with
| [a0] =>
kv (lenD .slice a0 h) fun v0 =>
kv (aMinMax false [v0, (.int .i64 10)]) fun v1 =>
kv (sliceD (.slice 5) a0 none (some v1) none h) fun v2 =>
kP (appendD (some (5, 64, [(.int .i64 0), (.string ⟨#[]⟩), (.string ⟨#[]⟩), (.string ⟨#[]⟩), (.int .i64 0)])) (.slice none 0 0) v2 h) fun v3 h =>
K v3 h
| _ => False
def F.estafetteref1_Add (E : FE) : Spec := fun args h K => match args with
| [a0, a1] =>
kv (binD .bad .rem true a0 (.int .u32 65536) h) fun v0 =>
kv (binD .bad .rem true v0 (.int .u32 65521) h) fun v1 =>
kv (binD .bad .quo true a0 (.int .u32 65536) h) fun v2 =>
kv (binD .bad .rem true v2 (.int .u32 65521) h) fun v3 =>
∃ (Inv4 : Nat → List V → AHeap → Prop) (n4 : Nat), Inv4 n4 [v1, v3, (.int .i64 0)] h ∧ ∀ (n4 : Nat) (e4 : Nat → V) (h : AHeap), Inv4 n4 [(e4 5), (e4 6), (e4 7)] h →
kv (lenD .slice a1 h) fun v5 =>
kv (binD .bad .lss false (e4 7) v5 h) fun v6 =>
ifV v6 (
kv (indexAddrD (.slice 1) a1 (e4 7)) fun v7 =>
kv (ldD .one v7 h) fun v8 =>
kv ((convD (.int .u32) v8 h).map (·.1)) fun v9 =>
kv (binD .bad .add false (e4 5) v9 h) fun v10 =>
kv (binD .bad .rem true v10 (.int .u32 65521) h) fun v11 =>
kv (binD .bad .add false (e4 6) v11 h) fun v12 =>
kv (binD .bad .rem true v12 (.int .u32 65521) h) fun v13 =>
kv (binD .bad .add true (e4 7) (.int .i64 1) h) fun v14 =>
∃ m, m < n4 ∧ Inv4 m [v11, v13, v14] h) (
kv (binD .bad .mul true (e4 6) (.int .u32 65536) h) fun v15 =>
kv (binD .bad .add false v15 (e4 5) h) fun v16 =>
K v16 h)
| _ => False
def F.estafetteref1_Mark (E : FE) : Spec := fun args h K => match args with
| [a0] =>
cl (F.estafetteref1_Add E) [(.int .u32 1), a0] h fun v0 h =>
K v0 h
| _ => False
def F.estafetteref1_Shard (E : FE) : Spec := fun args h K => match args with
| [a0, a1] =>
kv (binD .bad .lss true a1 (.int .i64 1) h) fun v0 =>
ifV v0 (
K (.int .i64 0) h) (
kP (convD .toBytes a0 h) fun v1 h =>
cl (F.estafetteref1_Mark E) [v1] h fun v2 h =>
kv ((convD (.int .i64) v2 h).map (·.1)) fun v3 =>
kv (binD .bad .rem false v3 a1 h) fun v4 =>
K v4 h)
| _ => False
def F.estafetteref12_Parts (E : FE) : Spec := fun args h K => match args with
| [a0, a1] =>
kv (binD .bad .lss true a1 (.int .i64 1) h) fun v0 =>
kv (gdV v0 false (some a1)) fun v1 =>
kv (gdV v0 false (binD .bad .gtr true v1 (.int .i64 3) h)) fun v2 =>
kv (pickV v0 (.bool true) v2) fun v3 =>
ifV v3 (
K (.slice none 0 0) h) (
kP (makeSliceD (some (1, 24, [(.slice none 0 0)])) a1 a1 h) fun v4 h =>
∃ (Inv5 : Nat → List V → AHeap → Prop) (n5 : Nat), Inv5 n5 [(.int .i64 0)] h ∧ ∀ (n5 : Nat) (e5 : Nat → V) (h : AHeap), Inv5 n5 [(e5 6)] h →
kv (lenD .slice a0 h) fun v6 =>
kv (binD .bad .lss false (e5 6) v6 h) fun v7 =>
ifV v7 (
kv (indexAddrD (.slice 5) a0 (e5 6)) fun v8 =>
kv (fieldAddrD (some 1) v8) fun v9 =>
kv (ldD .one v9 h) fun v10 =>
cl (F.estafetteref1_Shard E) [v10, a1] h fun v11 h =>
kv (indexAddrD (.slice 1) v4 v11) fun v12 =>
kv (ldD .one v12 h) fun v13 =>
kP (buildSliceD (some (1, [(.int .i64 0)])) 1 [(0, (e5 6))] h) fun v14 h =>
kP (appendD (some (1, 8, [(.int .i64 0)])) v13 v14 h) fun v15 h =>
kv (indexAddrD (.slice 1) v4 v11) fun v16 =>
kH (stD (some 1) v16 v15 h) fun _ h =>
kv (binD .bad .add true (e5 6) (.int .i64 1) h) fun v17 =>
∃ m, m < n5 ∧ Inv5 m [v17] h) (
K v4 h))
| _ => False
end Go.Abs
namespace Go.Abs
open Go
structure Msg where
 id : Int
 val : ByteArray
 count : Int
 till : Int
deriving DecidableEq
def Msg.cells (m : Msg) : List V := [i64 m.id, str m.val, i64 m.count, i64 m.till]
def msgsC (l : List Msg) : List V := l.flatMap Msg.cells
@[simp] theorem msgsC_nil : msgsC [] = [] := rfl
@[simp] theorem msgsC_cons (m : Msg) (l : List Msg) : msgsC (m :: l) = m.cells ++ msgsC l := rfl
@[simp] theorem msgsC_append (a b : List Msg) : msgsC (a ++ b) = msgsC a ++ msgsC b := by simp [msgsC]
@[simp] theorem cells_length (m : Msg) : m.cells.length = 4 := rfl
@[simp] theorem msgsC_length (l : List Msg) : (msgsC l).length = l.length * 4 := by
 induction l with
 | nil => rfl
 | cons m l ih => simp [ih, Nat.add_mul, Nat.add_comm]
theorem msgsC_drop (l : List Msg) (k : Nat) : (msgsC l).drop (k * 4) = msgsC (l.drop k) := by
 induction l generalizing k with
 | nil => simp
 | cons m l ih =>
  cases k with
  | zero => simp
  | succ k =>
   rw [List.drop_succ_cons, msgsC_cons, Nat.add_mul, Nat.one_mul, Nat.add_comm, ← ih k, List.drop_append]
   simp [List.drop_eq_nil_of_le]
def Ms (h : AHeap) (fp : List Nat) (v : V) (l : List Msg) : Prop := Sl h fp v 4 l.length (msgsC l)
variable {E : FE} {h : AHeap} {fp : List Nat} {v : V} {l : List Msg}
theorem Ms.lt (s : Ms h fp v l) : ∀ x ∈ fp, x < h.next := Sl.lt s
theorem Ms.same {h' : AHeap} (s : Ms h fp v l) (hl : h.next ≤ h'.next) (hs : ∀ x ∈ fp, h'.get x = h.get x) : Ms h' fp v l := Sl.same s hl hs
end Go.Abs
namespace Go.Abs
open Go
def Qu (h : AHeap) (fp : List Nat) (p : V) (most next : Int) (items lost : List Msg) : Prop :=
 ∃ b fi fl vi vl, p = ptr b 0 ∧ fp = b :: (fi ++ fl) ∧ b < h.next ∧ h.get b = some (.cells [i64 most, vi, vl, i64 next] 4 .rw) ∧ Ms h fi vi items ∧ Ms h fl vl lost ∧
  b ∉ fi ∧ b ∉ fl ∧ ∀ x ∈ fi, x ∉ fl
variable {E : FE} {h : AHeap} {fp : List Nat} {p : V} {most next : Int} {items lost : List Msg}
theorem Qu.lt (q : Qu h fp p most next items lost) : ∀ x ∈ fp, x < h.next := by
 obtain ⟨b, fi, fl, vi, vl, rfl, rfl, hb, h1, h2, h3, _⟩ := q
 intro x hx
 simp only [List.mem_cons, List.mem_append] at hx
 rcases hx with rfl | hx | hx
 · exact hb
 · exact h2.lt x hx
 · exact h3.lt x hx
theorem Qu.same {h' : AHeap} (q : Qu h fp p most next items lost) (hl : h.next ≤ h'.next) (hs : ∀ x ∈ fp, h'.get x = h.get x) : Qu h' fp p most next items lost := by
 obtain ⟨b, fi, fl, vi, vl, rfl, rfl, hb, h1, h2, h3, h4⟩ := q
 exact ⟨b, fi, fl, vi, vl, rfl, rfl, by omega, by rw [hs b (by simp), h1], h2.same hl fun x hx => hs x (by simp [hx]), h3.same hl fun x hx => hs x (by simp [hx]), h4⟩
theorem wrap_i64 {n : Int} (h1 : -9223372036854775808 ≤ n) (h2 : n ≤ 9223372036854775807) : IntKind.i64.wrap n = n := wrap_id h1 h2
theorem st_of {b o n : Nat} {cs vs : List V} {e : Nat} {k : BK} {x : V} (hb : h.get b = some (.cells cs e k)) (hk : k ≠ .ro) (hx : cellsOf x = some vs) (hn : vs.length = n) (h1 : vs.all oneCell = true) (ho : o + n ≤ cs.length) :
 stD (some n) (ptr b o) x h = some (h.put b (.cells (setList cs o vs) e k)) := by
 subst hn
 simp only [stD, hx, h1, and_self, if_true, AHeap.wr, hb]
 rw [if_pos ⟨hk, ho⟩]
theorem st_one {b o : Nat} {cs : List V} {e : Nat} {k : BK} {x : V} (hb : h.get b = some (.cells cs e k)) (hk : k ≠ .ro) (hx : cellsOf x = some [x]) (h1 : oneCell x = true) (ho : o < cs.length) :
 stD (some 1) (ptr b o) x h = some (h.put b (.cells (cs.set o x) e k)) := st_of hb hk hx rfl (by simp [h1]) ho
theorem Sl.cell {fp : List Nat} {v : V} {es n : Nat} {cs : List V} (s : Sl h fp v es n cs) : cellsOf v = some [v] ∧ oneCell v = true := by
 obtain ⟨_, ⟨rfl, _⟩ | ⟨b, c, all, rfl, _⟩⟩ := s <;> exact ⟨rfl, rfl⟩
end Go.Abs
namespace Go.Abs
open Go
variable {E : FE} {h : AHeap} {fp : List Nat} {p : V} {most next : Int} {items lost : List Msg}
abbrev Msg.agg (m : Msg) : V := .agg #[i64 m.id, str m.val, i64 m.count, i64 m.till]
abbrev Msg.zero : Msg := ⟨0, ⟨#[]⟩, 0, 0⟩
theorem Ms.at {v : V} {l : List Msg} (s : Ms h fp v l) {i : Nat} {m : Msg} (hi : l[i]? = some m) :
 ∃ b, indexAddrD (.slice 4) v (i64 i) = some (ptr b (i * 4)) ∧ b ∈ fp ∧ ldD (.agg 4) (ptr b (i * 4)) h = some m.agg ∧
  h.rd b (i * 4) = some (i64 m.id) ∧ h.rd b (i * 4 + 1) = some (str m.val) ∧ h.rd b (i * 4 + 2) = some (i64 m.count) ∧ h.rd b (i * 4 + 3) = some (i64 m.till) := by
 have hil : i < l.length := (List.getElem?_eq_some_iff.1 hi).1
 obtain ⟨h0, ⟨rfl, h1, rfl⟩ | ⟨b, c, all, rfl, rfl, hb, hc, h2, h3, h4⟩⟩ := s
 · omega
 have hall : l.length * 4 ≤ all.length := Nat.le_trans (Nat.mul_le_mul_right _ hc) h3
 have hrow : (all.drop (i * 4)).take 4 = m.cells := by
  have e : (msgsC l).drop (i * 4) = msgsC (l.drop i) := msgsC_drop l i
  rw [List.drop_eq_getElem_cons hil, msgsC_cons] at e
  have : l[i] = m := (List.getElem?_eq_some_iff.1 hi).2
  rw [this, ← h4, List.drop_take] at e
  have e2 := congrArg (List.take 4) e
  rw [List.take_take, Nat.min_eq_left (by omega)] at e2
  rw [e2]
  rfl
 have hcell : ∀ k, k < 4 → all[i * 4 + k]? = m.cells[k]? := by
  intro k hk
  rw [← hrow, List.getElem?_take, if_pos hk, List.getElem?_drop]
 have b1 : (0 : Int) ≤ (i : Int) ∧ (i : Int) < (l.length : Nat) := by omega
 refine ⟨b, ?_, by simp, ?_, ?_, ?_, ?_, ?_⟩
 · simp only [indexAddrD, if_pos b1, Int.toNat_natCast, Nat.zero_add]
 · rw [ld_agg, rdN_of h2, if_pos (by omega), hrow]; rfl
 · rw [rd_of h2]; exact hcell 0 (by decide)
 · rw [rd_of h2]; exact hcell 1 (by decide)
 · rw [rd_of h2]; exact hcell 2 (by decide)
 · rw [rd_of h2]; exact hcell 3 (by decide)
theorem Mod.newBox {fp : List Nat} {o : AObj} (hl : ∀ x ∈ fp, x < h.next) : Mod h fp (h.new o) fp :=
 ⟨by simp, fun x hx _ => by
  have : x ≠ h.next := by omega
  simp [this], fun x hx => .inl hx, fun x hx => by have := hl x hx; simp; omega⟩
theorem Mod.putNew {h' : AHeap} {fp fp' : List Nat} {b : Nat} {o : AObj} (m : Mod h fp h' fp') (hb : h.next ≤ b) : Mod h fp (h'.put b o) fp' :=
 ⟨m.next, fun x hx hn => by
  have : x ≠ b := by omega
  simp [this, m.same x hx hn], m.new, m.lt⟩
end Go.Abs
namespace Go.Abs
open Go
variable {E : FE} {h : AHeap} {fp : List Nat} {p : V} {most next : Int} {items lost : List Msg}
theorem aCall_mono {I : FuncId → Option Spec} (hM : MonoI I) {f : V} {args : List V} {h : AHeap} {K K' : V → AHeap → Prop} (hk : ∀ v h, K v h → K' v h) (hn : aCall I f args h K) : aCall I f args h K' := by
 unfold aCall at hn ⊢
 split
 · rename_i g first captured
   simp only at hn
   cases hg : I g with
   | none => simp only [hg] at hn
   | some s => simp only [hg] at hn ⊢; exact hM g s hg _ _ _ _ hk hn
 · rename_i hf
   split at hn
   · exact absurd rfl (hf _ _ _)
   · exact hn
end Go.Abs
namespace Go.Abs
open Go
def Stp (l : List En) (clk : Nat) : Prop := (l.map (·.b)).Nodup ∧ ∀ e ∈ l, e.b < clk
def Tab (h : AHeap) (fp : List Nat) (p : V) (l : List En) : Prop :=
 ∃ b m clk, p = ptr b 0 ∧ fp = [b, m] ∧ b ≠ m ∧ b < h.next ∧ m < h.next ∧ h.get b = some (.cells [.map (some m)] 1 .rw) ∧ h.get m = some (.map (l.map ME) clk) ∧ (keysE l).Nodup ∧ Stp l clk
theorem Tab.lt {h : AHeap} {fp : List Nat} {p : V} {l : List En} (t : Tab h fp p l) : ∀ x ∈ fp, x < h.next := by
 obtain ⟨b, m, clk, rfl, rfl, hne, hb, hm, h1, h2, hn⟩ := t
 simp
 exact ⟨hb, hm⟩
theorem Tab.same {h h' : AHeap} {fp : List Nat} {p : V} {l : List En} (t : Tab h fp p l) (hl : h.next ≤ h'.next) (hs : ∀ x ∈ fp, h'.get x = h.get x) : Tab h' fp p l := by
 obtain ⟨b, m, clk, rfl, rfl, hne, hb, hm, h1, h2, hn⟩ := t
 exact ⟨b, m, clk, rfl, rfl, hne, by omega, by omega, by rw [hs b (by simp), h1], by rw [hs m (by simp), h2], hn⟩
variable {E : FE} {h : AHeap} {fp : List Nat} {p : V} {l : List En}
end Go.Abs
namespace Go.Abs
open Go
def Ts (h : AHeap) (fp : List Nat) (v : V) (l : List ByteArray) : Prop := Sl h fp v 1 l.length (l.map str)
variable {E : FE} {h : AHeap} {fp : List Nat} {v p : V} {l : List ByteArray}
theorem Ts.lt (s : Ts h fp v l) : ∀ x ∈ fp, x < h.next := Sl.lt s
theorem Ts.same {h' : AHeap} (s : Ts h fp v l) (hl : h.next ≤ h'.next) (hs : ∀ x ∈ fp, h'.get x = h.get x) : Ts h' fp v l := Sl.same s hl hs
theorem strs_one (l : List ByteArray) : (l.map str).all oneCell = true := by
 induction l with
 | nil => rfl
 | cons a l ih => simp only [List.map_cons, List.all_cons, ih]; rfl
theorem clone_of {x : V} {n : Nat} {new : List V} (hn : ∃ b, binD .slice .eql true x (.slice none 0 0) h = some (.bool b) ∧ (b = true → n = 0)) (hx : ∀ o, aLenOf x = some n ∧ aSrc 1 x (h.new o) = some new) (hl : new.length = n) (h1 : new.all oneCell = true) (hsz : n ≤ 1000000) :
 cl (F.slices_Clone_Sstring_string E) [x] h fun r h' => ∃ fp', Sl h' fp' r 1 n new ∧ Mod h [] h' fp' := by
 refine cl_of ?_
 obtain ⟨b, hb, hnil⟩ := hn
 simp only [F.slices_Clone_Sstring_string, hb, kv_some, ifV_bool]
 cases b with
 | true =>
  have h0 := hnil rfl
  have : new = [] := List.eq_nil_of_length_eq_zero (by omega)
  subst this
  subst h0
  simp only [if_true]
  exact ⟨[], Sl.nil, Mod.refl (by simp)⟩
 | false =>
  have e0 : buildSliceD (some (1, [(.string ⟨#[]⟩)])) 0 [] h = some (.slice (some ⟨h.next, 0, none⟩) 0 0, h.new (.cells [] 1 .rw)) := rfl
  simp only [Bool.false_eq_true, if_false, e0, kP_some]
  have s1 : Sl (h.new (.cells [] 1 .rw)) [h.next] (.slice (some ⟨h.next, 0, none⟩) 0 0) 1 0 [] := ⟨by simp, .inr ⟨h.next, 0, [], rfl, rfl, by simp, by simp, by simp, by simp, by simp⟩⟩
  obtain ⟨v', h', fp', e1, e2, e3⟩ := Sl.append s1 (bytes := 16) (z := [.string ⟨#[]⟩]) (k := n) (new := new) rfl (by decide) (by decide) (hx (.cells [] 1 .rw)).1 (fun _ => (hx (.cells [] 1 .rw)).2) (by omega) h1 (by omega)
  rw [e1]
  simp only [kP_some]
  refine ⟨fp', by simpa using e2, by have := e3.next; simp at this; omega, fun x hx _ => ?_, fun x hx => ?_, e3.lt⟩
  · have hne : x ≠ h.next := by omega
    rw [e3.same x (by simp; omega) (by simpa using hne)]
    simp [hne]
  · rcases e3.new x hx with h1 | h1
    · simp at h1; right; omega
    · simp at h1; right; omega
theorem clone_strs (s : Ts h fp v l) (hsz : l.length ≤ 1000000) : cl (F.slices_Clone_Sstring_string E) [v] h fun r h' => ∃ fp', Ts h' fp' r l ∧ Mod h [] h' fp' := by
 obtain ⟨b, hb, hn⟩ := Sl.isNil s true
 refine clone_of ⟨b, hb, fun h => (hn h).1⟩ (fun o => ?_) (by simp) (strs_one l) hsz
 have : Ts (h.new o) fp v l := s.same (by simp) fun x hx => by
  have := s.lt x hx
  have : x ≠ h.next := by omega
  simp [this]
 exact Sl.src this
def To (h : AHeap) (fp : List Nat) (p : V) (l : List ByteArray) (g : List En) : Prop :=
 ∃ b m fl vl clk, p = ptr b 0 ∧ fp = b :: m :: fl ∧ b ≠ m ∧ b < h.next ∧ m < h.next ∧ h.get b = some (.cells [vl, .map (some m)] 2 .rw) ∧ h.get m = some (.map (g.map ME) clk) ∧ Ts h fl vl l ∧
  b ∉ fl ∧ m ∉ fl ∧ ((keysE g).Nodup ∧ Stp g clk) ∧ ∀ e ∈ g, ∃ n : Int, e.v = i64 n
theorem To.lt {g : List En} (t : To h fp p l g) : ∀ x ∈ fp, x < h.next := by
 obtain ⟨b, m, fl, vl, clk, rfl, rfl, hne, hb, hm, h1, h2, h3, _⟩ := t
 intro x hx
 simp only [List.mem_cons] at hx
 rcases hx with rfl | rfl | hx
 · exact hb
 · exact hm
 · exact h3.lt x hx
theorem To.same {g : List En} {h' : AHeap} (t : To h fp p l g) (hl : h.next ≤ h'.next) (hs : ∀ x ∈ fp, h'.get x = h.get x) : To h' fp p l g := by
 obtain ⟨b, m, fl, vl, clk, rfl, rfl, hne, hb, hm, h1, h2, h3, h4⟩ := t
 exact ⟨b, m, fl, vl, clk, rfl, rfl, hne, by omega, by omega, by rw [hs b (by simp), h1], by rw [hs m (by simp), h2], h3.same hl fun x hx => hs x (by simp [hx]), h4⟩
end Go.Abs
namespace Go.Abs
open Go
theorem gdC_yes {b w : Bool} {h : AHeap} {t : (V → AHeap → Prop) → Prop} {K : V → AHeap → Prop} (hb : b = w) (ht : t K) : gdC (.bool b) w h t K :=
 gdC.intro K ⟨.inl ⟨hb, ht⟩, fun _ _ h => h⟩
theorem gdC_no {b w : Bool} {h : AHeap} {t : (V → AHeap → Prop) → Prop} {K : V → AHeap → Prop} (hb : b ≠ w) (hk : K gone h) : gdC (.bool b) w h t K :=
 gdC.intro K ⟨.inr ⟨hb, hk⟩, fun _ _ h => h⟩
theorem Ms.len {h : AHeap} {fp : List Nat} {v : V} {l : List Msg} (s : Ms h fp v l) : lenD .slice v h = some (i64 l.length) := Sl.len s
end Go.Abs
namespace Go.Abs
open Go
variable {E : FE} {h : AHeap} {fp : List Nat} {p : V} {most next : Int} {items lost : List Msg}
theorem add_i64 {k : EqK} {c : Bool} (a b : Int) (h1 : -9223372036854775808 ≤ a + b) (h2 : a + b ≤ 9223372036854775807) : binD k .add c (i64 a) (i64 b) h = some (i64 (a + b)) := by
 rw [bin_add, wrap_i64 h1 h2]
theorem sub_i64 {k : EqK} {c : Bool} (a b : Int) (h1 : -9223372036854775808 ≤ a - b) (h2 : a - b ≤ 9223372036854775807) : binD k .sub c (i64 a) (i64 b) h = some (i64 (a - b)) := by
 rw [bin_sub, wrap_i64 h1 h2]
end Go.Abs

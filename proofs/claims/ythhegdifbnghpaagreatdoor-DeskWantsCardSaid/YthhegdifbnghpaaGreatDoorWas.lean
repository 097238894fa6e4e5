/- Shallow forms of functions, printed by tools/gen.lean. -/
import Derived.Test.YthhegdifbnghpaaGreatDoorWap
import Derived.Test.YthhegdifbnghpaaGreatDoorWao
set_option maxRecDepth 20000
set_option linter.unusedVariables false
set_option linter.unusedSimpArgs false
namespace Go.Abs
open Go
def F.desk_New (E : FE) : Spec := fun args h K => match args with
| [a0] =>
kv (binD .bad .lss true a0 (.int .i64 1) h) fun v0 =>
kv (gdV v0 false (some a0)) fun v1 =>
kv (gdV v0 false (binD .bad .gtr true v1 (.int .i64 3) h)) fun v2 =>
kv (pickV v0 (.bool true) v2) fun v3 =>
ifV v3 (
K (.pointer none) h) (
kP (makeMapD true none h) fun v4 h =>
kP (makeMapD true none h) fun v5 h =>
kP (makeMapD true none h) fun v6 h =>
kv (buildD (.struct [(.int .i64 0), (.map none), (.map none), (.map none)] [(0, 1), (1, 1), (2, 1), (3, 1)]) [(0, a0), (1, v4), (2, v5), (3, v6)]) fun v7 =>
kP (newD none v7 h) fun v8 h =>
K v8 h)
| _ => False
def F.op_Client (E : FE) : Spec := fun args h K => match args with
| [a0] =>
kP (newD none a0 h) fun v0 h =>
kv (fieldAddrD (some 0) v0) fun v1 =>
kv (ldD .one v1 h) fun v2 =>
kv (binD .bad .geq true v2 (.int .i64 0) h) fun v3 =>
kv (gdV v3 true (fieldAddrD (some 0) v0)) fun v4 =>
kv (gdV v3 true (ldD .one v4 h)) fun v5 =>
kv (gdV v3 true (binD .bad .leq true v5 (.int .i64 8) h)) fun v6 =>
kv (pickV v3 v6 (.bool false)) fun v7 =>
kv (gdV v7 true (fieldAddrD (some 1) v0)) fun v8 =>
kv (gdV v7 true (ldD .one v8 h)) fun v9 =>
kv (gdV v7 true (binD .bad .geq true v9 (.int .i64 1) h)) fun v10 =>
kv (pickV v7 v10 (.bool false)) fun v11 =>
kv (gdV v11 true (fieldAddrD (some 1) v0)) fun v12 =>
kv (gdV v11 true (ldD .one v12 h)) fun v13 =>
kv (gdV v11 true (binD .bad .leq true v13 (.int .i64 1099511627776) h)) fun v14 =>
kv (pickV v11 v14 (.bool false)) fun v15 =>
K v15 h
| _ => False
def F.slices_IndexFunc_Sapi_Op_api_Op (E : FE) : Spec := fun args h K => match args with
| [a0, a1] =>
kv (lenD .slice a0 h) fun v0 =>
∃ (Inv1 : Nat → List V → AHeap → Prop) (n1 : Nat), Inv1 n1 [(.int .i64 0)] h ∧ ∀ (n1 : Nat) (e1 : Nat → V) (h : AHeap), Inv1 n1 [(e1 8)] h →
kv (binD .bad .lss false (e1 8) v0 h) fun v2 =>
ifV v2 (
kv (indexAddrD (.slice 5) a0 (e1 8)) fun v3 =>
kv (ldD (.agg 5) v3 h) fun v4 =>
aCall E.I a1 [v4] h fun v5 h =>
ifV v5 (
K (e1 8) h) (
kv (binD .bad .add true (e1 8) (.int .i64 1) h) fun v6 =>
∃ m, m < n1 ∧ Inv1 m [v6] h)) (
K (.int .i64 (-1)) h)
| _ => False
def F.slices_ContainsFunc_Sapi_Op_api_Op (E : FE) : Spec := fun args h K => match args with
| [a0, a1] =>
cl (F.slices_IndexFunc_Sapi_Op_api_Op E) [a0, a1] h fun v0 h =>
kv (binD .bad .geq true v0 (.int .i64 0) h) fun v1 =>
K v1 h
| _ => False
def F.op_names (E : FE) : Spec := fun args h K => match args with
| [a0] =>
kv (binD .bad .eql true a0 (.int .i64 1) h) fun v0 =>
∃ K1 : List V → AHeap → Prop, (
ifV v0 (
K1 [v0] h) (
kv (binD .bad .eql true a0 (.int .i64 8) h) fun v2 =>
ifV v2 (
K1 [v2] h) (
kv (binD .bad .eql true a0 (.int .i64 11) h) fun v3 =>
K1 [v3] h))) ∧ ∀ (e1 : Nat → V) (h : AHeap), K1 [(e1 6)] h →
ifV (e1 6) (
K (.tuple #[(.bool true), (.bool false), (.bool true)]) h) (
kv (binD .bad .eql true a0 (.int .i64 3) h) fun v4 =>
∃ K5 : List V → AHeap → Prop, (
ifV v4 (
K5 [v4] h) (
kv (binD .bad .eql true a0 (.int .i64 5) h) fun v6 =>
K5 [v6] h)) ∧ ∀ (e5 : Nat → V) (h : AHeap), K5 [(e5 10)] h →
ifV (e5 10) (
K (.tuple #[(.bool true), (.bool false), (.bool false)]) h) (
kv (binD .bad .eql true a0 (.int .i64 4) h) fun v7 =>
ifV v7 (
K (.tuple #[(.bool true), (.bool true), (.bool false)]) h) (
kv (binD .bad .eql true a0 (.int .i64 6) h) fun v8 =>
∃ K9 : List V → AHeap → Prop, (
ifV v8 (
K9 [v8] h) (
kv (binD .bad .eql true a0 (.int .i64 10) h) fun v10 =>
K9 [v10] h)) ∧ ∀ (e9 : Nat → V) (h : AHeap), K9 [(e9 15)] h →
ifV (e9 15) (
K (.tuple #[(.bool false), (.bool true), (.bool false)]) h) (
kv (binD .bad .eql true a0 (.int .i64 7) h) fun v11 =>
ifV v11 (
K (.tuple #[(.bool false), (.bool false), (.bool true)]) h) (
kv (binD .bad .eql true a0 (.int .i64 12) h) fun v12 =>
ifV v12 (
K (.tuple #[(.bool true), (.bool true), (.bool true)]) h) (
K (.tuple #[(.bool false), (.bool false), (.bool false)]) h))))))
| _ => False
def F.strings_indexFunc (E : FE) : Spec := fun args h K => match args with
| [a0, a1, a2] =>
kP (rangeD .str a0 h) fun v0 h =>
∃ (Inv1 : Nat → List V → AHeap → Prop) (n1 : Nat), Inv1 n1 [] h ∧ ∀ (n1 : Nat) (e1 : Nat → V) (h : AHeap), Inv1 n1 [] h →
aNext v0 true h fun v2 h =>
kv (aExtract v2 0) fun v3 =>
ifV v3 (
kv (aExtract v2 1) fun v4 =>
kv (aExtract v2 2) fun v5 =>
aCall E.I a1 [v5] h fun v6 h =>
kv (binD .bool .eql false v6 a2 h) fun v7 =>
ifV v7 (
K v4 h) (
∃ m, m < n1 ∧ Inv1 m [] h)) (
K (.int .i64 (-1)) h)
| _ => False
def F.strings_IndexFunc (E : FE) : Spec := fun args h K => match args with
| [a0, a1] =>
cl (F.strings_indexFunc E) [a0, a1, (.bool true)] h fun v0 h =>
K v0 h
| _ => False
def F.strings_ContainsFunc (E : FE) : Spec := fun args h K => match args with
| [a0, a1] =>
cl (F.strings_IndexFunc E) [a0, a1] h fun v0 h =>
kv (binD .bad .geq true v0 (.int .i64 0) h) fun v1 =>
K v1 h
| _ => False
def F.op_makes (E : FE) : Spec := fun args h K => match args with
| [a0] =>
kP (newD none a0 h) fun v0 h =>
kv (fieldAddrD (some 4) v0) fun v1 =>
kv (ldD .one v1 h) fun v2 =>
kv (binD .bad .lss true v2 (.int .i64 1) h) fun v3 =>
kv (gdV v3 false (fieldAddrD (some 4) v0)) fun v4 =>
kv (gdV v3 false (ldD .one v4 h)) fun v5 =>
kv (gdV v3 false (binD .bad .gtr true v5 (.int .i64 3) h)) fun v6 =>
kv (pickV v3 (.bool true) v6) fun v7 =>
ifV v7 (
K (.bool false) h) (
kv (fieldAddrD (some 2) v0) fun v8 =>
kv (ldD .one v8 h) fun v9 =>
kv (lenD .str v9 h) fun v10 =>
kv (binD .bad .eql true v10 (.int .i64 1) h) fun v11 =>
kv (gdV v11 true (fieldAddrD (some 2) v0)) fun v12 =>
kv (gdV v11 true (ldD .one v12 h)) fun v13 =>
kv (gdV v11 true (indexD .str v13 (.int .i64 0))) fun v14 =>
kv (gdV v11 true (binD .bad .geq true v14 (.int .u8 49) h)) fun v15 =>
kv (pickV v11 v15 (.bool false)) fun v16 =>
kv (gdV v16 true (fieldAddrD (some 2) v0)) fun v17 =>
kv (gdV v16 true (ldD .one v17 h)) fun v18 =>
kv (gdV v16 true (indexD .str v18 (.int .i64 0))) fun v19 =>
kv (gdV v16 true (binD .bad .leq true v19 (.int .u8 57) h)) fun v20 =>
kv (pickV v16 v20 (.bool false)) fun v21 =>
kv (gdV v21 false (fieldAddrD (some 2) v0)) fun v22 =>
kv (gdV v21 false (ldD .one v22 h)) fun v23 =>
kv (gdV v21 false (binD .bad .eql true v23 (.string ⟨#[]⟩) h)) fun v24 =>
kv (gdV v21 false (some v24)) fun v25 =>
kv (gdV v25 true (fieldAddrD (some 4) v0)) fun v26 =>
kv (gdV v25 true (ldD .one v26 h)) fun v27 =>
kv (gdV v25 true (binD .bad .neq true v27 (.int .i64 2) h)) fun v28 =>
kv (gdV v21 false (pickV v25 v28 (.bool false))) fun v29 =>
kv (pickV v21 (.bool true) v29) fun v30 =>
K v30 h)
| _ => False
def F.op_May_1 (E : FE) : Spec := fun args h K => match args with
| [a0] =>
kv (binD .bad .lss true a0 (.int .i32 97) h) fun v0 =>
kv (gdV v0 false (some a0)) fun v1 =>
kv (gdV v0 false (binD .bad .gtr true v1 (.int .i32 122) h)) fun v2 =>
kv (pickV v0 (.bool true) v2) fun v3 =>
K v3 h
| _ => False
def F.op_May (E : FE) : Spec := fun args h K => match args with
| [a0] =>
kP (newD none a0 h) fun v0 h =>
kv (fieldAddrD (some 0) v0) fun v1 =>
kv (ldD .one v1 h) fun v2 =>
cl (F.op_names E) [v2] h fun v3 h =>
kv (aExtract v3 0) fun v4 =>
kv (aExtract v3 1) fun v5 =>
kv (aExtract v3 2) fun v6 =>
kv (fieldAddrD (some 0) v0) fun v7 =>
kv (ldD .one v7 h) fun v8 =>
kv (binD .bad .lss true v8 (.int .i64 1) h) fun v9 =>
kv (gdV v9 false (fieldAddrD (some 0) v0)) fun v10 =>
kv (gdV v9 false (ldD .one v10 h)) fun v11 =>
kv (gdV v9 false (binD .bad .gtr true v11 (.int .i64 12) h)) fun v12 =>
kv (pickV v9 (.bool true) v12) fun v13 =>
∃ K14 : List V → AHeap → Prop, (
ifV v13 (
K14 [v13] h) (
kv (fieldAddrD (some 1) v0) fun v15 =>
kv (ldD .one v15 h) fun v16 =>
kv (binD .bad .eql true v16 (.string ⟨#[]⟩) h) fun v17 =>
kv (gdV v17 false (fieldAddrD (some 1) v0)) fun v18 =>
kv (gdV v17 false (ldD .one v18 h)) fun v19 =>
kv (gdV v17 false (lenD .str v19 h)) fun v20 =>
kv (gdV v17 false (binD .bad .gtr true v20 (.int .i64 20) h)) fun v21 =>
kv (pickV v17 (.bool true) v21) fun v22 =>
kv (gdV v22 false (fieldAddrD (some 1) v0)) fun v23 =>
kv (gdV v22 false (ldD .one v23 h)) fun v24 =>
kv (gdV v22 false (some (.func (.func (E.k 7)) #[] #[]))) fun v25 =>
gdC v22 false h (fun K26 => cl (F.strings_ContainsFunc E) [v24, v25] h fun v h => K26 v h) fun v27 h =>
kv (pickV v22 (.bool true) v27) fun v28 =>
K14 [v28] h)) ∧ ∀ (e14 : Nat → V) (h : AHeap), K14 [(e14 14)] h →
ifV (e14 14) (
K (.bool false) h) (
kv (fieldAddrD (some 2) v0) fun v29 =>
kv (ldD .one v29 h) fun v30 =>
kv (lenD .str v30 h) fun v31 =>
kv (binD .bad .gtr true v31 (.int .i64 20) h) fun v32 =>
kv (gdV v32 false (fieldAddrD (some 3) v0)) fun v33 =>
kv (gdV v32 false (ldD .one v33 h)) fun v34 =>
kv (gdV v32 false (lenD .str v34 h)) fun v35 =>
kv (gdV v32 false (binD .bad .gtr true v35 (.int .i64 100) h)) fun v36 =>
kv (pickV v32 (.bool true) v36) fun v37 =>
kv (gdV v37 false (fieldAddrD (some 4) v0)) fun v38 =>
kv (gdV v37 false (ldD .one v38 h)) fun v39 =>
kv (gdV v37 false (binD .bad .lss true v39 (.int .i64 0) h)) fun v40 =>
kv (pickV v37 (.bool true) v40) fun v41 =>
kv (gdV v41 false (fieldAddrD (some 4) v0)) fun v42 =>
kv (gdV v41 false (ldD .one v42 h)) fun v43 =>
kv (gdV v41 false (binD .bad .gtr true v43 (.int .i64 1099511627776) h)) fun v44 =>
kv (pickV v41 (.bool true) v44) fun v45 =>
∃ K46 : List V → AHeap → Prop, (
ifV v45 (
K46 [v45] h) (
kv (aUn .not v4) fun v47 =>
kv (gdV v47 true (fieldAddrD (some 2) v0)) fun v48 =>
kv (gdV v47 true (ldD .one v48 h)) fun v49 =>
kv (gdV v47 true (binD .bad .neq true v49 (.string ⟨#[]⟩) h)) fun v50 =>
kv (pickV v47 v50 (.bool false)) fun v51 =>
ifV v51 (
K46 [v51] h) (
kv (aUn .not v5) fun v52 =>
kv (gdV v52 true (fieldAddrD (some 3) v0)) fun v53 =>
kv (gdV v52 true (ldD .one v53 h)) fun v54 =>
kv (gdV v52 true (binD .bad .neq true v54 (.string ⟨#[]⟩) h)) fun v55 =>
kv (pickV v52 v55 (.bool false)) fun v56 =>
ifV v56 (
K46 [v56] h) (
kv (aUn .not v6) fun v57 =>
kv (gdV v57 true (fieldAddrD (some 4) v0)) fun v58 =>
kv (gdV v57 true (ldD .one v58 h)) fun v59 =>
kv (gdV v57 true (binD .bad .neq true v59 (.int .i64 0) h)) fun v60 =>
kv (pickV v57 v60 (.bool false)) fun v61 =>
K46 [v61] h)))) ∧ ∀ (e46 : Nat → V) (h : AHeap), K46 [(e46 38)] h →
ifV (e46 38) (
K (.bool false) h) (
kv (fieldAddrD (some 0) v0) fun v62 =>
kv (ldD .one v62 h) fun v63 =>
kv (binD .bad .neq true v63 (.int .i64 1) h) fun v64 =>
kv (gdV v64 false (ldD (.agg 5) v0 h)) fun v65 =>
gdC v64 false h (fun K66 => cl (F.op_makes E) [v65] h fun v h => K66 v h) fun v67 h =>
kv (pickV v64 (.bool true) v67) fun v68 =>
K v68 h))
| _ => False
def F.op_All_1 (E : FE) : Spec := fun args h K => match args with
| [a0] =>
kP (newD none a0 h) fun v0 h =>
kv (ldD (.agg 5) v0 h) fun v1 =>
cl (F.op_May E) [v1] h fun v2 h =>
kv (aUn .not v2) fun v3 =>
K v3 h
| _ => False
def F.op_All (E : FE) : Spec := fun args h K => match args with
| [a0] =>
kv (lenD .slice a0 h) fun v0 =>
kv (binD .bad .geq true v0 (.int .i64 1) h) fun v1 =>
kv (gdV v1 true (some a0)) fun v2 =>
kv (gdV v1 true (lenD .slice v2 h)) fun v3 =>
kv (gdV v1 true (binD .bad .leq true v3 (.int .i64 8) h)) fun v4 =>
kv (pickV v1 v4 (.bool false)) fun v5 =>
kv (gdV v5 true (some a0)) fun v6 =>
gdC v5 true h (fun K7 => cl (F.slices_ContainsFunc_Sapi_Op_api_Op E) [v6, (.func (.func (E.k 6)) #[] #[])] h fun v h => K7 v h) fun v8 h =>
kv (gdV v5 true (aUn .not v8)) fun v9 =>
kv (pickV v5 v9 (.bool false)) fun v10 =>
K v10 h
| _ => False
def F.slices_Clone_Sapi_Op_api_Op (E : FE) : Spec := fun args h K => match args with
| [a0] =>
kv (binD .slice .eql true a0 (.slice none 0 0) h) fun v0 =>
ifV v0 (
K (.slice none 0 0) h) (
kP (buildSliceD (some (5, [(.int .i64 0), (.string ⟨#[]⟩), (.string ⟨#[]⟩), (.string ⟨#[]⟩), (.int .i64 0)])) 0 [] h) fun v1 h =>
kP (appendD (some (5, 64, [(.int .i64 0), (.string ⟨#[]⟩), (.string ⟨#[]⟩), (.string ⟨#[]⟩), (.int .i64 0)])) v1 a0 h) fun v2 h =>
K v2 h)
| _ => False
def F.mark_Add (E : FE) : Spec := fun args h K => match args with
| [a0, a1] =>
kv (binD .bad .rem true a0 (.int .u32 65536) h) fun v0 =>
kv (binD .bad .rem true v0 (.int .u32 65521) h) fun v1 =>
kv (binD .bad .quo true a0 (.int .u32 65536) h) fun v2 =>
kv (binD .bad .rem true v2 (.int .u32 65521) h) fun v3 =>
kv (lenD .slice a1 h) fun v4 =>
∃ (Inv5 : Nat → List V → AHeap → Prop) (n5 : Nat), Inv5 n5 [v1, v3, (.int .i64 0)] h ∧ ∀ (n5 : Nat) (e5 : Nat → V) (h : AHeap), Inv5 n5 [(e5 5), (e5 6), (e5 17)] h →
kv (binD .bad .lss false (e5 17) v4 h) fun v6 =>
ifV v6 (
kv (indexAddrD (.slice 1) a1 (e5 17)) fun v7 =>
kv (ldD .one v7 h) fun v8 =>
kv ((convD (.int .u32) v8 h).map (·.1)) fun v9 =>
kv (binD .bad .add false (e5 5) v9 h) fun v10 =>
kv (binD .bad .rem true v10 (.int .u32 65521) h) fun v11 =>
kv (binD .bad .add false (e5 6) v11 h) fun v12 =>
kv (binD .bad .rem true v12 (.int .u32 65521) h) fun v13 =>
kv (binD .bad .add true (e5 17) (.int .i64 1) h) fun v14 =>
∃ m, m < n5 ∧ Inv5 m [v11, v13, v14] h) (
kv (binD .bad .mul true (e5 6) (.int .u32 65536) h) fun v15 =>
kv (binD .bad .add false v15 (e5 5) h) fun v16 =>
K v16 h)
| _ => False
def F.mark_Of (E : FE) : Spec := fun args h K => match args with
| [a0] =>
cl (F.mark_Add E) [(.int .u32 1), a0] h fun v0 h =>
K v0 h
| _ => False
def F.mark_Shards (E : FE) : Spec := fun args h K => match args with
| [a0, a1] =>
kv (binD .bad .lss true a1 (.int .i64 1) h) fun v0 =>
ifV v0 (
K (.int .i64 0) h) (
kP (convD .toBytes a0 h) fun v1 h =>
cl (F.mark_Of E) [v1] h fun v2 h =>
kv ((convD (.int .u64) v2 h).map (·.1)) fun v3 =>
kv ((convD (.int .u64) a1 h).map (·.1)) fun v4 =>
kv (binD .bad .rem false v3 v4 h) fun v5 =>
kv ((convD (.int .i64) v5 h).map (·.1)) fun v6 =>
K v6 h)
| _ => False
def F.name_Shard (E : FE) : Spec := fun args h K => match args with
| [a0, a1] =>
cl (F.mark_Shards E) [a0, a1] h fun v0 h =>
K v0 h
| _ => False
def F.op_Parts (E : FE) : Spec := fun args h K => match args with
| [a0, a1] =>
kv (binD .bad .lss true a1 (.int .i64 1) h) fun v0 =>
kv (gdV v0 false (some a1)) fun v1 =>
kv (gdV v0 false (binD .bad .gtr true v1 (.int .i64 3) h)) fun v2 =>
kv (pickV v0 (.bool true) v2) fun v3 =>
ifV v3 (
K (.slice none 0 0) h) (
kP (makeSliceD (some (1, 24, [(.slice none 0 0)])) a1 a1 h) fun v4 h =>
kv (lenD .slice a0 h) fun v5 =>
∃ (Inv6 : Nat → List V → AHeap → Prop) (n6 : Nat), Inv6 n6 [(.int .i64 0)] h ∧ ∀ (n6 : Nat) (e6 : Nat → V) (h : AHeap), Inv6 n6 [(e6 19)] h →
kv (binD .bad .lss false (e6 19) v5 h) fun v7 =>
ifV v7 (
kv (indexAddrD (.slice 5) a0 (e6 19)) fun v8 =>
kv (ldD (.agg 5) v8 h) fun v9 =>
kP (newD none (.agg #[(.int .i64 0), (.string ⟨#[]⟩), (.string ⟨#[]⟩), (.string ⟨#[]⟩), (.int .i64 0)]) h) fun v10 h =>
kH (stD (some 5) v10 v9 h) fun _ h =>
kv (fieldAddrD (some 1) v10) fun v11 =>
kv (ldD .one v11 h) fun v12 =>
cl (F.name_Shard E) [v12, a1] h fun v13 h =>
kv (indexAddrD (.slice 1) v4 v13) fun v14 =>
kv (ldD .one v14 h) fun v15 =>
kP (buildSliceD (some (1, [(.int .i64 0)])) 1 [(0, (e6 19))] h) fun v16 h =>
kP (appendD (some (1, 8, [(.int .i64 0)])) v15 v16 h) fun v17 h =>
kv (indexAddrD (.slice 1) v4 v13) fun v18 =>
kH (stD (some 1) v18 v17 h) fun _ h =>
kv (binD .bad .add true (e6 19) (.int .i64 1) h) fun v19 =>
∃ m, m < n6 ∧ Inv6 m [v19] h) (
K v4 h))
| _ => False
def F.desk_Desk_Begin (E : FE) : Spec := fun args h K => match args with
| [a0, a1, a2] =>
kP (newD none a1 h) fun v0 h =>
kv (binD (.ptr true) .eql true a0 (.pointer none) h) fun v1 =>
kv (gdV v1 false (ldD (.agg 2) v0 h)) fun v2 =>
gdC v1 false h (fun K3 => cl (F.op_Client E) [v2] h fun v h => K3 v h) fun v4 h =>
kv (gdV v1 false (aUn .not v4)) fun v5 =>
kv (pickV v1 (.bool true) v5) fun v6 =>
kv (gdV v6 false (some a2)) fun v7 =>
gdC v6 false h (fun K8 => cl (F.op_All E) [v7] h fun v h => K8 v h) fun v9 h =>
kv (gdV v6 false (aUn .not v9)) fun v10 =>
kv (pickV v6 (.bool true) v10) fun v11 =>
kv (gdV v11 false (fieldAddrD (some 1) v0)) fun v12 =>
kv (gdV v11 false (ldD .one v12 h)) fun v13 =>
kv (gdV v11 false (some a0)) fun v14 =>
kv (gdV v11 false (aNil v14)) fun v15 =>
kv (gdV v11 false (fieldAddrD (some 1) v15)) fun v16 =>
kv (gdV v11 false (ldD .one v16 h)) fun v17 =>
kv (gdV v11 false (fieldAddrD (some 0) v0)) fun v18 =>
kv (gdV v11 false (ldD .one v18 h)) fun v19 =>
kv (gdV v11 false (lookupD (some (.int, (some (.int .i64 0)))) v17 v19 false h)) fun v20 =>
kv (gdV v11 false (binD .bad .leq false v13 v20 h)) fun v21 =>
kv (pickV v11 (.bool true) v21) fun v22 =>
ifV v22 (
K (.bool false) h) (
kv (aNil a0) fun v23 =>
kv (fieldAddrD (some 1) v23) fun v24 =>
kv (ldD .one v24 h) fun v25 =>
kv (fieldAddrD (some 0) v0) fun v26 =>
kv (ldD .one v26 h) fun v27 =>
kv (fieldAddrD (some 1) v0) fun v28 =>
kv (ldD .one v28 h) fun v29 =>
kH (mapUpdateD (some (.int, (some (.int .i64 0)))) v25 v27 v29 h) fun _ h =>
kv (aNil a0) fun v30 =>
kv (fieldAddrD (some 2) v30) fun v31 =>
kv (ldD .one v31 h) fun v32 =>
kv (ldD (.agg 2) v0 h) fun v33 =>
kv (aNil a0) fun v34 =>
kv (fieldAddrD (some 0) v34) fun v35 =>
kv (ldD .one v35 h) fun v36 =>
((cl (F.slices_Clone_Sapi_Op_api_Op E) [a2] h fun v37 h =>
ldD .one v31 h = some v32 ∧
ldD (.agg 2) v0 h = some v33 ∧
ldD .one v35 h = some v36 ∧
((cl (F.op_Parts E) [a2, v36] h fun v38 h =>
ldD .one v31 h = some v32 ∧
ldD (.agg 2) v0 h = some v33 ∧
(kP (makeMapD true none h) fun v39 h =>
ldD .one v31 h = some v32 ∧
ldD (.agg 2) v0 h = some v33 ∧
ldD .one v35 h = some v36 ∧
kP (makeMapD true none h) fun v40 h =>
ldD .one v31 h = some v32 ∧
ldD (.agg 2) v0 h = some v33 ∧
ldD .one v35 h = some v36 ∧
kv (buildD (.struct [(.slice none 0 0), (.slice none 0 0), (.map none), (.bool false), (.bool false), (.map none), (.slice none 0 0)] [(0, 1), (1, 1), (2, 1), (3, 1), (4, 1), (5, 1), (6, 1)]) [(0, v37), (1, v38), (2, v39), (5, v40)]) fun v41 =>
kP (newD none v41 h) fun v42 h =>
ldD .one v31 h = some v32 ∧
ldD (.agg 2) v0 h = some v33 ∧
kH (mapUpdateD (some ((.struct false [(0, .int), (1, .int)]), (some (.pointer none)))) v32 v33 v42 h) fun _ h =>
K (.bool true) h) ∧
(kP (makeMapD true none h) fun v43 h =>
ldD .one v31 h = some v32 ∧
ldD (.agg 2) v0 h = some v33 ∧
ldD .one v35 h = some v36 ∧
kP (makeMapD true none h) fun v44 h =>
ldD .one v31 h = some v32 ∧
ldD (.agg 2) v0 h = some v33 ∧
ldD .one v35 h = some v36 ∧
kv (buildD (.struct [(.slice none 0 0), (.slice none 0 0), (.map none), (.bool false), (.bool false), (.map none), (.slice none 0 0)] [(0, 1), (1, 1), (2, 1), (3, 1), (4, 1), (5, 1), (6, 1)]) [(0, v37), (1, v38), (2, v44), (5, v43)]) fun v45 =>
kP (newD none v45 h) fun v46 h =>
ldD .one v31 h = some v32 ∧
ldD (.agg 2) v0 h = some v33 ∧
kH (mapUpdateD (some ((.struct false [(0, .int), (1, .int)]), (some (.pointer none)))) v32 v33 v46 h) fun _ h =>
K (.bool true) h)) ∧
(kP (makeMapD true none h) fun v47 h =>
ldD .one v31 h = some v32 ∧
ldD (.agg 2) v0 h = some v33 ∧
ldD .one v35 h = some v36 ∧
(cl (F.op_Parts E) [a2, v36] h fun v48 h =>
ldD .one v31 h = some v32 ∧
ldD (.agg 2) v0 h = some v33 ∧
kP (makeMapD true none h) fun v49 h =>
ldD .one v31 h = some v32 ∧
ldD (.agg 2) v0 h = some v33 ∧
ldD .one v35 h = some v36 ∧
kv (buildD (.struct [(.slice none 0 0), (.slice none 0 0), (.map none), (.bool false), (.bool false), (.map none), (.slice none 0 0)] [(0, 1), (1, 1), (2, 1), (3, 1), (4, 1), (5, 1), (6, 1)]) [(0, v37), (1, v48), (2, v47), (5, v49)]) fun v50 =>
kP (newD none v50 h) fun v51 h =>
ldD .one v31 h = some v32 ∧
ldD (.agg 2) v0 h = some v33 ∧
kH (mapUpdateD (some ((.struct false [(0, .int), (1, .int)]), (some (.pointer none)))) v32 v33 v51 h) fun _ h =>
K (.bool true) h) ∧
(kP (makeMapD true none h) fun v52 h =>
ldD .one v31 h = some v32 ∧
ldD (.agg 2) v0 h = some v33 ∧
ldD .one v35 h = some v36 ∧
cl (F.op_Parts E) [a2, v36] h fun v53 h =>
ldD .one v31 h = some v32 ∧
ldD (.agg 2) v0 h = some v33 ∧
kv (buildD (.struct [(.slice none 0 0), (.slice none 0 0), (.map none), (.bool false), (.bool false), (.map none), (.slice none 0 0)] [(0, 1), (1, 1), (2, 1), (3, 1), (4, 1), (5, 1), (6, 1)]) [(0, v37), (1, v53), (2, v47), (5, v52)]) fun v54 =>
kP (newD none v54 h) fun v55 h =>
ldD .one v31 h = some v32 ∧
ldD (.agg 2) v0 h = some v33 ∧
kH (mapUpdateD (some ((.struct false [(0, .int), (1, .int)]), (some (.pointer none)))) v32 v33 v55 h) fun _ h =>
K (.bool true) h))) ∧
(kP (makeMapD true none h) fun v56 h =>
ldD .one v31 h = some v32 ∧
ldD (.agg 2) v0 h = some v33 ∧
ldD .one v35 h = some v36 ∧
(cl (F.op_Parts E) [a2, v36] h fun v57 h =>
ldD .one v31 h = some v32 ∧
ldD (.agg 2) v0 h = some v33 ∧
kP (makeMapD true none h) fun v58 h =>
ldD .one v31 h = some v32 ∧
ldD (.agg 2) v0 h = some v33 ∧
ldD .one v35 h = some v36 ∧
kv (buildD (.struct [(.slice none 0 0), (.slice none 0 0), (.map none), (.bool false), (.bool false), (.map none), (.slice none 0 0)] [(0, 1), (1, 1), (2, 1), (3, 1), (4, 1), (5, 1), (6, 1)]) [(0, v37), (1, v57), (2, v58), (5, v56)]) fun v59 =>
kP (newD none v59 h) fun v60 h =>
ldD .one v31 h = some v32 ∧
ldD (.agg 2) v0 h = some v33 ∧
kH (mapUpdateD (some ((.struct false [(0, .int), (1, .int)]), (some (.pointer none)))) v32 v33 v60 h) fun _ h =>
K (.bool true) h) ∧
(kP (makeMapD true none h) fun v61 h =>
ldD .one v31 h = some v32 ∧
ldD (.agg 2) v0 h = some v33 ∧
ldD .one v35 h = some v36 ∧
cl (F.op_Parts E) [a2, v36] h fun v62 h =>
ldD .one v31 h = some v32 ∧
ldD (.agg 2) v0 h = some v33 ∧
kv (buildD (.struct [(.slice none 0 0), (.slice none 0 0), (.map none), (.bool false), (.bool false), (.map none), (.slice none 0 0)] [(0, 1), (1, 1), (2, 1), (3, 1), (4, 1), (5, 1), (6, 1)]) [(0, v37), (1, v62), (2, v61), (5, v56)]) fun v63 =>
kP (newD none v63 h) fun v64 h =>
ldD .one v31 h = some v32 ∧
ldD (.agg 2) v0 h = some v33 ∧
kH (mapUpdateD (some ((.struct false [(0, .int), (1, .int)]), (some (.pointer none)))) v32 v33 v64 h) fun _ h =>
K (.bool true) h))) ∧
(kP (makeMapD true none h) fun v65 h =>
ldD .one v31 h = some v32 ∧
ldD (.agg 2) v0 h = some v33 ∧
ldD .one v35 h = some v36 ∧
(cl (F.slices_Clone_Sapi_Op_api_Op E) [a2] h fun v66 h =>
ldD .one v31 h = some v32 ∧
ldD (.agg 2) v0 h = some v33 ∧
ldD .one v35 h = some v36 ∧
(cl (F.op_Parts E) [a2, v36] h fun v67 h =>
ldD .one v31 h = some v32 ∧
ldD (.agg 2) v0 h = some v33 ∧
kP (makeMapD true none h) fun v68 h =>
ldD .one v31 h = some v32 ∧
ldD (.agg 2) v0 h = some v33 ∧
ldD .one v35 h = some v36 ∧
kv (buildD (.struct [(.slice none 0 0), (.slice none 0 0), (.map none), (.bool false), (.bool false), (.map none), (.slice none 0 0)] [(0, 1), (1, 1), (2, 1), (3, 1), (4, 1), (5, 1), (6, 1)]) [(0, v66), (1, v67), (2, v65), (5, v68)]) fun v69 =>
kP (newD none v69 h) fun v70 h =>
ldD .one v31 h = some v32 ∧
ldD (.agg 2) v0 h = some v33 ∧
kH (mapUpdateD (some ((.struct false [(0, .int), (1, .int)]), (some (.pointer none)))) v32 v33 v70 h) fun _ h =>
K (.bool true) h) ∧
(kP (makeMapD true none h) fun v71 h =>
ldD .one v31 h = some v32 ∧
ldD (.agg 2) v0 h = some v33 ∧
ldD .one v35 h = some v36 ∧
cl (F.op_Parts E) [a2, v36] h fun v72 h =>
ldD .one v31 h = some v32 ∧
ldD (.agg 2) v0 h = some v33 ∧
kv (buildD (.struct [(.slice none 0 0), (.slice none 0 0), (.map none), (.bool false), (.bool false), (.map none), (.slice none 0 0)] [(0, 1), (1, 1), (2, 1), (3, 1), (4, 1), (5, 1), (6, 1)]) [(0, v66), (1, v72), (2, v65), (5, v71)]) fun v73 =>
kP (newD none v73 h) fun v74 h =>
ldD .one v31 h = some v32 ∧
ldD (.agg 2) v0 h = some v33 ∧
kH (mapUpdateD (some ((.struct false [(0, .int), (1, .int)]), (some (.pointer none)))) v32 v33 v74 h) fun _ h =>
K (.bool true) h)) ∧
(kP (makeMapD true none h) fun v75 h =>
ldD .one v31 h = some v32 ∧
ldD (.agg 2) v0 h = some v33 ∧
ldD .one v35 h = some v36 ∧
cl (F.slices_Clone_Sapi_Op_api_Op E) [a2] h fun v76 h =>
ldD .one v31 h = some v32 ∧
ldD (.agg 2) v0 h = some v33 ∧
ldD .one v35 h = some v36 ∧
cl (F.op_Parts E) [a2, v36] h fun v77 h =>
ldD .one v31 h = some v32 ∧
ldD (.agg 2) v0 h = some v33 ∧
kv (buildD (.struct [(.slice none 0 0), (.slice none 0 0), (.map none), (.bool false), (.bool false), (.map none), (.slice none 0 0)] [(0, 1), (1, 1), (2, 1), (3, 1), (4, 1), (5, 1), (6, 1)]) [(0, v76), (1, v77), (2, v65), (5, v75)]) fun v78 =>
kP (newD none v78 h) fun v79 h =>
ldD .one v31 h = some v32 ∧
ldD (.agg 2) v0 h = some v33 ∧
kH (mapUpdateD (some ((.struct false [(0, .int), (1, .int)]), (some (.pointer none)))) v32 v33 v79 h) fun _ h =>
K (.bool true) h))) ∧
(kP (makeMapD true none h) fun v80 h =>
ldD .one v31 h = some v32 ∧
ldD (.agg 2) v0 h = some v33 ∧
ldD .one v35 h = some v36 ∧
(cl (F.slices_Clone_Sapi_Op_api_Op E) [a2] h fun v81 h =>
ldD .one v31 h = some v32 ∧
ldD (.agg 2) v0 h = some v33 ∧
ldD .one v35 h = some v36 ∧
(cl (F.op_Parts E) [a2, v36] h fun v82 h =>
ldD .one v31 h = some v32 ∧
ldD (.agg 2) v0 h = some v33 ∧
kP (makeMapD true none h) fun v83 h =>
ldD .one v31 h = some v32 ∧
ldD (.agg 2) v0 h = some v33 ∧
ldD .one v35 h = some v36 ∧
kv (buildD (.struct [(.slice none 0 0), (.slice none 0 0), (.map none), (.bool false), (.bool false), (.map none), (.slice none 0 0)] [(0, 1), (1, 1), (2, 1), (3, 1), (4, 1), (5, 1), (6, 1)]) [(0, v81), (1, v82), (2, v83), (5, v80)]) fun v84 =>
kP (newD none v84 h) fun v85 h =>
ldD .one v31 h = some v32 ∧
ldD (.agg 2) v0 h = some v33 ∧
kH (mapUpdateD (some ((.struct false [(0, .int), (1, .int)]), (some (.pointer none)))) v32 v33 v85 h) fun _ h =>
K (.bool true) h) ∧
(kP (makeMapD true none h) fun v86 h =>
ldD .one v31 h = some v32 ∧
ldD (.agg 2) v0 h = some v33 ∧
ldD .one v35 h = some v36 ∧
cl (F.op_Parts E) [a2, v36] h fun v87 h =>
ldD .one v31 h = some v32 ∧
ldD (.agg 2) v0 h = some v33 ∧
kv (buildD (.struct [(.slice none 0 0), (.slice none 0 0), (.map none), (.bool false), (.bool false), (.map none), (.slice none 0 0)] [(0, 1), (1, 1), (2, 1), (3, 1), (4, 1), (5, 1), (6, 1)]) [(0, v81), (1, v87), (2, v86), (5, v80)]) fun v88 =>
kP (newD none v88 h) fun v89 h =>
ldD .one v31 h = some v32 ∧
ldD (.agg 2) v0 h = some v33 ∧
kH (mapUpdateD (some ((.struct false [(0, .int), (1, .int)]), (some (.pointer none)))) v32 v33 v89 h) fun _ h =>
K (.bool true) h)) ∧
(kP (makeMapD true none h) fun v90 h =>
ldD .one v31 h = some v32 ∧
ldD (.agg 2) v0 h = some v33 ∧
ldD .one v35 h = some v36 ∧
cl (F.slices_Clone_Sapi_Op_api_Op E) [a2] h fun v91 h =>
ldD .one v31 h = some v32 ∧
ldD (.agg 2) v0 h = some v33 ∧
ldD .one v35 h = some v36 ∧
cl (F.op_Parts E) [a2, v36] h fun v92 h =>
ldD .one v31 h = some v32 ∧
ldD (.agg 2) v0 h = some v33 ∧
kv (buildD (.struct [(.slice none 0 0), (.slice none 0 0), (.map none), (.bool false), (.bool false), (.map none), (.slice none 0 0)] [(0, 1), (1, 1), (2, 1), (3, 1), (4, 1), (5, 1), (6, 1)]) [(0, v91), (1, v92), (2, v90), (5, v80)]) fun v93 =>
kP (newD none v93 h) fun v94 h =>
ldD .one v31 h = some v32 ∧
ldD (.agg 2) v0 h = some v33 ∧
kH (mapUpdateD (some ((.struct false [(0, .int), (1, .int)]), (some (.pointer none)))) v32 v33 v94 h) fun _ h =>
K (.bool true) h)))
| _ => False
def F.maps_Keys_map_api_Id_desk_trans_api_Id_desk_trans (E : FE) : Spec := fun args h K => match args with
| [a0] =>
kP (newD none a0 h) fun v0 h =>
K (.func (.func (E.k 16)) #[] #[v0]) h
| _ => False
def F.name_New (E : FE) : Spec := fun args h K => match args with
| [a0] =>
kP (makeMapD true none h) fun v0 h =>
kv (buildD (.struct [(.map none)] [(0, 1)]) [(0, v0)]) fun v1 =>
kP (newD none v1 h) fun v2 h =>
kv (lenD .slice a0 h) fun v3 =>
∃ (Inv4 : Nat → List V → AHeap → Prop) (n4 : Nat), Inv4 n4 [(.int .i64 0)] h ∧ ∀ (n4 : Nat) (e4 : Nat → V) (h : AHeap), Inv4 n4 [(e4 11)] h →
kv (binD .bad .lss false (e4 11) v3 h) fun v5 =>
ifV v5 (
kv (indexAddrD (.slice 2) a0 (e4 11)) fun v6 =>
kv (ldD (.agg 2) v6 h) fun v7 =>
kP (newD none (.agg #[(.int .i64 0), (.int .i64 0)]) h) fun v8 h =>
kH (stD (some 2) v8 v7 h) fun _ h =>
kv (aNil v2) fun v9 =>
kv (fieldAddrD (some 0) v9) fun v10 =>
kv (ldD .one v10 h) fun v11 =>
kv (ldD (.agg 2) v8 h) fun v12 =>
kH (mapUpdateD (some ((.struct false [(0, .int), (1, .int)]), (some (.bool false)))) v11 v12 (.bool true) h) fun _ h =>
kv (binD .bad .add true (e4 11) (.int .i64 1) h) fun v13 =>
∃ m, m < n4 ∧ Inv4 m [v13] h) (
K v2 h)
| _ => False
def F.maps_Keys_map_api_Id_bool_api_Id_bool (E : FE) : Spec := fun args h K => match args with
| [a0] =>
kP (newD none a0 h) fun v0 h =>
K (.func (.func (E.k 13)) #[] #[v0]) h
| _ => False
def F.math_bits_Len32 (E : FE) : Spec := fun args h K => match args with
| [a0] =>
kv (binD .bad .geq true a0 (.int .u32 65536) h) fun v0 =>
∃ K1 : List V → AHeap → Prop, (
ifV v0 (
kv (binD .bad .shr true a0 (.int .u64 16) h) fun v2 =>
K1 [v2, (.int .i64 16)] h) (
K1 [a0, (.int .i64 0)] h)) ∧ ∀ (e1 : Nat → V) (h : AHeap), K1 [(e1 0), (e1 2)] h →
kv (binD .bad .geq true (e1 0) (.int .u32 256) h) fun v3 =>
∃ K4 : List V → AHeap → Prop, (
ifV v3 (
kv (binD .bad .shr true (e1 0) (.int .u64 8) h) fun v5 =>
kv (binD .bad .add true (e1 2) (.int .i64 8) h) fun v6 =>
K4 [v5, v6] h) (
K4 [(e1 0), (e1 2)] h)) ∧ ∀ (e4 : Nat → V) (h : AHeap), K4 [(e4 0), (e4 2)] h →
kv ((convD (.int .u8) (e4 0) h).map (·.1)) fun v7 =>
kv (indexD .str (.string ⟨#[0, 1, 2, 2, 3, 3, 3, 3, 4, 4, 4, 4, 4, 4, 4, 4, 5, 5, 5, 5, 5, 5, 5, 5, 5, 5, 5, 5, 5, 5, 5, 5, 6, 6, 6, 6, 6, 6, 6, 6, 6, 6, 6, 6, 6, 6, 6, 6, 6, 6, 6, 6, 6, 6, 6, 6, 6, 6, 6, 6, 6, 6, 6, 6, 7, 7, 7, 7, 7, 7, 7, 7, 7, 7, 7, 7, 7, 7, 7, 7, 7, 7, 7, 7, 7, 7, 7, 7, 7, 7, 7, 7, 7, 7, 7, 7, 7, 7, 7, 7, 7, 7, 7, 7, 7, 7, 7, 7, 7, 7, 7, 7, 7, 7, 7, 7, 7, 7, 7, 7, 7, 7, 7, 7, 7, 7, 7, 7, 8, 8, 8, 8, 8, 8, 8, 8, 8, 8, 8, 8, 8, 8, 8, 8, 8, 8, 8, 8, 8, 8, 8, 8, 8, 8, 8, 8, 8, 8, 8, 8, 8, 8, 8, 8, 8, 8, 8, 8, 8, 8, 8, 8, 8, 8, 8, 8, 8, 8, 8, 8, 8, 8, 8, 8, 8, 8, 8, 8, 8, 8, 8, 8, 8, 8, 8, 8, 8, 8, 8, 8, 8, 8, 8, 8, 8, 8, 8, 8, 8, 8, 8, 8, 8, 8, 8, 8, 8, 8, 8, 8, 8, 8, 8, 8, 8, 8, 8, 8, 8, 8, 8, 8, 8, 8, 8, 8, 8, 8, 8, 8, 8, 8, 8, 8, 8, 8, 8, 8, 8, 8, 8, 8, 8, 8, 8, 8]⟩) v7) fun v8 =>
kv ((convD (.int .i64) v8 h).map (·.1)) fun v9 =>
kv (binD .bad .add false (e4 2) v9 h) fun v10 =>
K v10 h
| _ => False
def F.math_bits_Len64 (E : FE) : Spec := fun args h K => match args with
| [a0] =>
kv (binD .bad .geq true a0 (.int .u64 4294967296) h) fun v0 =>
∃ K1 : List V → AHeap → Prop, (
ifV v0 (
kv (binD .bad .shr true a0 (.int .u64 32) h) fun v2 =>
K1 [v2, (.int .i64 32)] h) (
K1 [a0, (.int .i64 0)] h)) ∧ ∀ (e1 : Nat → V) (h : AHeap), K1 [(e1 0), (e1 2)] h →
kv (binD .bad .geq true (e1 0) (.int .u64 65536) h) fun v3 =>
∃ K4 : List V → AHeap → Prop, (
ifV v3 (
kv (binD .bad .shr true (e1 0) (.int .u64 16) h) fun v5 =>
kv (binD .bad .add true (e1 2) (.int .i64 16) h) fun v6 =>
K4 [v5, v6] h) (
K4 [(e1 0), (e1 2)] h)) ∧ ∀ (e4 : Nat → V) (h : AHeap), K4 [(e4 0), (e4 2)] h →
kv (binD .bad .geq true (e4 0) (.int .u64 256) h) fun v7 =>
∃ K8 : List V → AHeap → Prop, (
ifV v7 (
kv (binD .bad .shr true (e4 0) (.int .u64 8) h) fun v9 =>
kv (binD .bad .add true (e4 2) (.int .i64 8) h) fun v10 =>
K8 [v9, v10] h) (
K8 [(e4 0), (e4 2)] h)) ∧ ∀ (e8 : Nat → V) (h : AHeap), K8 [(e8 0), (e8 2)] h →
kv ((convD (.int .u8) (e8 0) h).map (·.1)) fun v11 =>
kv (indexD .str (.string ⟨#[0, 1, 2, 2, 3, 3, 3, 3, 4, 4, 4, 4, 4, 4, 4, 4, 5, 5, 5, 5, 5, 5, 5, 5, 5, 5, 5, 5, 5, 5, 5, 5, 6, 6, 6, 6, 6, 6, 6, 6, 6, 6, 6, 6, 6, 6, 6, 6, 6, 6, 6, 6, 6, 6, 6, 6, 6, 6, 6, 6, 6, 6, 6, 6, 7, 7, 7, 7, 7, 7, 7, 7, 7, 7, 7, 7, 7, 7, 7, 7, 7, 7, 7, 7, 7, 7, 7, 7, 7, 7, 7, 7, 7, 7, 7, 7, 7, 7, 7, 7, 7, 7, 7, 7, 7, 7, 7, 7, 7, 7, 7, 7, 7, 7, 7, 7, 7, 7, 7, 7, 7, 7, 7, 7, 7, 7, 7, 7, 8, 8, 8, 8, 8, 8, 8, 8, 8, 8, 8, 8, 8, 8, 8, 8, 8, 8, 8, 8, 8, 8, 8, 8, 8, 8, 8, 8, 8, 8, 8, 8, 8, 8, 8, 8, 8, 8, 8, 8, 8, 8, 8, 8, 8, 8, 8, 8, 8, 8, 8, 8, 8, 8, 8, 8, 8, 8, 8, 8, 8, 8, 8, 8, 8, 8, 8, 8, 8, 8, 8, 8, 8, 8, 8, 8, 8, 8, 8, 8, 8, 8, 8, 8, 8, 8, 8, 8, 8, 8, 8, 8, 8, 8, 8, 8, 8, 8, 8, 8, 8, 8, 8, 8, 8, 8, 8, 8, 8, 8, 8, 8, 8, 8, 8, 8, 8, 8, 8, 8, 8, 8, 8, 8, 8, 8, 8, 8]⟩) v11) fun v12 =>
kv ((convD (.int .i64) v12 h).map (·.1)) fun v13 =>
kv (binD .bad .add false (e8 2) v13 h) fun v14 =>
K v14 h
| _ => False
def F.math_bits_Len (E : FE) : Spec := fun args h K => match args with
| [a0] =>
ifV (.bool false) (
kv ((convD (.int .u32) a0 h).map (·.1)) fun v0 =>
cl (F.math_bits_Len32 E) [v0] h fun v1 h =>
K v1 h) (
cl (F.math_bits_Len64 E) [a0] h fun v2 h =>
K v2 h)
| _ => False
def F.slices_insertionSortCmpFunc_api_Id (E : FE) : Spec := fun args h K => match args with
| [a0, a1, a2, a3] =>
kv (binD .bad .add true a1 (.int .i64 1) h) fun v0 =>
∃ (Inv1 : Nat → List V → AHeap → Prop) (n1 : Nat), Inv1 n1 [v0] h ∧ ∀ (n1 : Nat) (e1 : Nat → V) (h : AHeap), Inv1 n1 [(e1 8)] h →
kv (binD .bad .lss false (e1 8) a2 h) fun v2 =>
ifV v2 (
∃ (Inv3 : Nat → List V → AHeap → Prop) (n3 : Nat), Inv3 n3 [(e1 8)] h ∧ ∀ (n3 : Nat) (e3 : Nat → V) (h : AHeap), Inv3 n3 [(e3 9)] h →
kv (binD .bad .gtr false (e3 9) a1 h) fun v4 =>
kv (gdV v4 true (some a3)) fun v5 =>
kv (gdV v4 true (some a0)) fun v6 =>
kv (gdV v4 true (some (e3 9))) fun v7 =>
kv (gdV v4 true (indexAddrD (.slice 2) v6 v7)) fun v8 =>
kv (gdV v4 true (ldD (.agg 2) v8 h)) fun v9 =>
kv (gdV v4 true (some a0)) fun v10 =>
kv (gdV v4 true (some (e3 9))) fun v11 =>
kv (gdV v4 true (binD .bad .sub true v11 (.int .i64 1) h)) fun v12 =>
kv (gdV v4 true (indexAddrD (.slice 2) v10 v12)) fun v13 =>
kv (gdV v4 true (ldD (.agg 2) v13 h)) fun v14 =>
gdC v4 true h (fun K15 => aCall E.I v5 [v9, v14] h fun v h => K15 v h) fun v16 h =>
kv (gdV v4 true (binD .bad .lss true v16 (.int .i64 0) h)) fun v17 =>
kv (pickV v4 v17 (.bool false)) fun v18 =>
ifV v18 (
kv (binD .bad .sub true (e3 9) (.int .i64 1) h) fun v19 =>
kv (binD .bad .sub true (e3 9) (.int .i64 1) h) fun v20 =>
kv (indexAddrD (.slice 2) a0 v20) fun v21 =>
kv (ldD (.agg 2) v21 h) fun v22 =>
kv (indexAddrD (.slice 2) a0 (e3 9)) fun v23 =>
kv (ldD (.agg 2) v23 h) fun v24 =>
kv (indexAddrD (.slice 2) a0 (e3 9)) fun v25 =>
kH (stD (some 2) v25 v22 h) fun _ h =>
kv (indexAddrD (.slice 2) a0 v19) fun v26 =>
kH (stD (some 2) v26 v24 h) fun _ h =>
kv (binD .bad .sub true (e3 9) (.int .i64 1) h) fun v27 =>
∃ m, m < n3 ∧ Inv3 m [v27] h) (
kv (binD .bad .add true (e1 8) (.int .i64 1) h) fun v28 =>
∃ m, m < n1 ∧ Inv1 m [v28] h)) (
K (.tuple #[]) h)
| _ => False
def Fr.slices_pdqsortCmpFunc_api_Id : Nat → FE → Spec
| 0, _ => fun _ _ _ => False
| fuel + 1, E => fun args h K => match args with
| [a0, a1, a2, a3, a4] =>
∃ (Inv0 : Nat → List V → AHeap → Prop) (n0 : Nat), Inv0 n0 [a1, a2, a3, (.bool true), (.bool true)] h ∧ ∀ (n0 : Nat) (e0 : Nat → V) (h : AHeap), Inv0 n0 [(e0 1), (e0 2), (e0 3), (e0 10), (e0 11)] h →
kv (binD .bad .sub false (e0 2) (e0 1) h) fun v1 =>
kv (binD .bad .leq true v1 (.int .i64 12) h) fun v2 =>
ifV v2 (
cl (F.slices_insertionSortCmpFunc_api_Id E) [a0, (e0 1), (e0 2), a4] h fun v3 h =>
K (.tuple #[]) h) (
kv (binD .bad .eql true (e0 3) (.int .i64 0) h) fun v4 =>
ifV v4 (
False) (
kv (aUn .not (e0 10)) fun v6 =>
∃ K7 : List V → AHeap → Prop, (
ifV v6 (
False) (
K7 [(e0 3)] h)) ∧ ∀ (e7 : Nat → V) (h : AHeap), K7 [(e7 3)] h →
False))
| _ => False
def F.slices_pdqsortCmpFunc_api_Id (E : FE) : Spec := fun args h K => ∃ n, Fr.slices_pdqsortCmpFunc_api_Id n E args h K
def F.slices_SortFunc_Sapi_Id_api_Id (E : FE) : Spec := fun args h K => match args with
| [a0, a1] =>
kv (lenD .slice a0 h) fun v0 =>
kv ((convD (.int .u64) v0 h).map (·.1)) fun v1 =>
cl (F.math_bits_Len E) [v1] h fun v2 h =>
cl (F.slices_pdqsortCmpFunc_api_Id E) [a0, (.int .i64 0), v0, v2, a1] h fun v3 h =>
K (.tuple #[]) h
| _ => False
def F.slices_SortedFunc_api_Id (E : FE) : Spec := fun args h K => match args with
| [a0, a1] =>
cl (F.slices_Collect_api_Id E) [a0] h fun v0 h =>
cl (F.slices_SortFunc_Sapi_Id_api_Id E) [v0, a1] h fun v1 h =>
K v0 h
| _ => False
def F.cmp_isNaN_int (E : FE) : Spec := fun args h K => match args with
| [a0] =>
kv (binD .bad .neq false a0 a0 h) fun v0 =>
K v0 h
| _ => False
def F.cmp_Compare_int (E : FE) : Spec := fun args h K => match args with
| [a0, a1] =>
cl (F.cmp_isNaN_int E) [a0] h fun v0 h =>
cl (F.cmp_isNaN_int E) [a1] h fun v1 h =>
ifV v0 (
ifV v1 (
K (.int .i64 0) h) (
K (.int .i64 (-1)) h)) (
ifV v1 (
K (.int .i64 1) h) (
kv (binD .bad .lss false a0 a1 h) fun v2 =>
ifV v2 (
K (.int .i64 (-1)) h) (
kv (binD .bad .gtr false a0 a1 h) fun v3 =>
ifV v3 (
K (.int .i64 1) h) (
K (.int .i64 0) h))))
| _ => False
def F.cmp_isNaN_int64 (E : FE) : Spec := fun args h K => match args with
| [a0] =>
kv (binD .bad .neq false a0 a0 h) fun v0 =>
K v0 h
| _ => False
def F.cmp_Compare_int64 (E : FE) : Spec := fun args h K => match args with
| [a0, a1] =>
cl (F.cmp_isNaN_int64 E) [a0] h fun v0 h =>
cl (F.cmp_isNaN_int64 E) [a1] h fun v1 h =>
ifV v0 (
ifV v1 (
K (.int .i64 0) h) (
K (.int .i64 (-1)) h)) (
ifV v1 (
K (.int .i64 1) h) (
kv (binD .bad .lss false a0 a1 h) fun v2 =>
ifV v2 (
K (.int .i64 (-1)) h) (
kv (binD .bad .gtr false a0 a1 h) fun v3 =>
ifV v3 (
K (.int .i64 1) h) (
K (.int .i64 0) h))))
| _ => False
def F.cmp_Or_int (E : FE) : Spec := fun args h K => match args with
| [a0] =>
kv (lenD .slice a0 h) fun v0 =>
∃ (Inv1 : Nat → List V → AHeap → Prop) (n1 : Nat), Inv1 n1 [(.int .i64 0)] h ∧ ∀ (n1 : Nat) (e1 : Nat → V) (h : AHeap), Inv1 n1 [(e1 8)] h →
kv (binD .bad .lss false (e1 8) v0 h) fun v2 =>
ifV v2 (
kv (indexAddrD (.slice 1) a0 (e1 8)) fun v3 =>
kv (ldD .one v3 h) fun v4 =>
kv (binD .bad .neq false v4 (.int .i64 0) h) fun v5 =>
ifV v5 (
K v4 h) (
kv (binD .bad .add true (e1 8) (.int .i64 1) h) fun v6 =>
∃ m, m < n1 ∧ Inv1 m [v6] h)) (
K (.int .i64 0) h)
| _ => False
def F.name_order (E : FE) : Spec := fun args h K => match args with
| [a0, a1] =>
kP (newD none a0 h) fun v0 h =>
kP (newD none a1 h) fun v1 h =>
kv (fieldAddrD (some 0) v0) fun v2 =>
kv (ldD .one v2 h) fun v3 =>
kv (fieldAddrD (some 0) v1) fun v4 =>
kv (ldD .one v4 h) fun v5 =>
kv (fieldAddrD (some 1) v0) fun v6 =>
kv (ldD .one v6 h) fun v7 =>
kv (fieldAddrD (some 1) v1) fun v8 =>
kv (ldD .one v8 h) fun v9 =>
cl (F.cmp_Compare_int E) [v3, v5] h fun v10 h =>
ldD .one v6 h = some v7 ∧
ldD .one v8 h = some v9 ∧
cl (F.cmp_Compare_int64 E) [v7, v9] h fun v11 h =>
kP (buildSliceD (some (1, [(.int .i64 0)])) 2 [(0, v10), (1, v11)] h) fun v12 h =>
cl (F.cmp_Or_int E) [v12] h fun v13 h =>
K v13 h
| _ => False
def F.name_Ids_All (E : FE) : Spec := fun args h K => match args with
| [a0] =>
kv (binD (.ptr true) .eql true a0 (.pointer none) h) fun v0 =>
ifV v0 (
K (.slice none 0 0) h) (
kv (aNil a0) fun v1 =>
kv (fieldAddrD (some 0) v1) fun v2 =>
kv (ldD .one v2 h) fun v3 =>
cl (F.maps_Keys_map_api_Id_bool_api_Id_bool E) [v3] h fun v4 h =>
cl (F.slices_SortedFunc_api_Id E) [v4, (.func (.func (E.k 10)) #[] #[])] h fun v5 h =>
K v5 h)
| _ => False
def F.desk_Desk_Open (E : FE) : Spec := fun args h K => match args with
| [a0] =>
kv (binD (.ptr true) .eql true a0 (.pointer none) h) fun v0 =>
ifV v0 (
K (.slice none 0 0) h) (
kv (aNil a0) fun v1 =>
kv (fieldAddrD (some 2) v1) fun v2 =>
kv (ldD .one v2 h) fun v3 =>
cl (F.maps_Keys_map_api_Id_desk_trans_api_Id_desk_trans E) [v3] h fun v4 h =>
cl (F.slices_Collect_api_Id E) [v4] h fun v5 h =>
cl (F.name_New E) [v5] h fun v6 h =>
cl (F.name_Ids_All E) [v6] h fun v7 h =>
K v7 h)
| _ => False
def F.desk_trans_has (E : FE) : Spec := fun args h K => match args with
| [a0, a1] =>
kv (binD .bad .geq true a1 (.int .i64 0) h) fun v0 =>
kv (gdV v0 true (some a1)) fun v1 =>
kv (gdV v0 true (some a0)) fun v2 =>
kv (gdV v0 true (aNil v2)) fun v3 =>
kv (gdV v0 true (fieldAddrD (some 1) v3)) fun v4 =>
kv (gdV v0 true (ldD .one v4 h)) fun v5 =>
kv (gdV v0 true (lenD .slice v5 h)) fun v6 =>
kv (gdV v0 true (binD .bad .lss false v1 v6 h)) fun v7 =>
kv (pickV v0 v7 (.bool false)) fun v8 =>
kv (gdV v8 true (some a0)) fun v9 =>
kv (gdV v8 true (aNil v9)) fun v10 =>
kv (gdV v8 true (fieldAddrD (some 1) v10)) fun v11 =>
kv (gdV v8 true (ldD .one v11 h)) fun v12 =>
kv (gdV v8 true (some a1)) fun v13 =>
kv (gdV v8 true (indexAddrD (.slice 1) v12 v13)) fun v14 =>
kv (gdV v8 true (ldD .one v14 h)) fun v15 =>
kv (gdV v8 true (lenD .slice v15 h)) fun v16 =>
kv (gdV v8 true (binD .bad .gtr true v16 (.int .i64 0) h)) fun v17 =>
kv (pickV v8 v17 (.bool false)) fun v18 =>
K v18 h
| _ => False
def F.desk_trans_shards (E : FE) : Spec := fun args h K => match args with
| [a0] =>
kv (aNil a0) fun v0 =>
kv (fieldAddrD (some 1) v0) fun v1 =>
kv (ldD .one v1 h) fun v2 =>
kv (lenD .slice v2 h) fun v3 =>
∃ (Inv4 : Nat → List V → AHeap → Prop) (n4 : Nat), Inv4 n4 [(.slice none 0 0), (.int .i64 0)] h ∧ ∀ (n4 : Nat) (e4 : Nat → V) (h : AHeap), Inv4 n4 [(e4 3), (e4 10)] h →
kv (binD .bad .lss false (e4 10) v3 h) fun v5 =>
ifV v5 (
cl (F.desk_trans_has E) [a0, (e4 10)] h fun v6 h =>
ifV v6 (
kP (buildSliceD (some (1, [(.int .i64 0)])) 1 [(0, (e4 10))] h) fun v7 h =>
kP (appendD (some (1, 8, [(.int .i64 0)])) (e4 3) v7 h) fun v8 h =>
kv (binD .bad .add true (e4 10) (.int .i64 1) h) fun v9 =>
∃ m, m < n4 ∧ Inv4 m [v8, v9] h) (
kv (binD .bad .add true (e4 10) (.int .i64 1) h) fun v10 =>
∃ m, m < n4 ∧ Inv4 m [(e4 3), v10] h)) (
K (e4 3) h)
| _ => False
def F.op_bit (E : FE) : Spec := fun args h K => match args with
| [a0] =>
ifV a0 (
K (.int .i64 1) h) (
K (.int .i64 0) h)
| _ => False
def F.op_Word (E : FE) : Spec := fun args h K => match args with
| [a0, a1, a2, a3] =>
kP (newD none a1 h) fun v0 h =>
kP (newD none (.agg #[(.int .i64 0), (.slice none 0 0), (.slice none 0 0)]) h) fun v1 h =>
kv (binD .bad .neq true a0 (.int .i64 6) h) fun v2 =>
kv (gdV v2 true (some a0)) fun v3 =>
kv (gdV v2 true (binD .bad .neq true v3 (.int .i64 7) h)) fun v4 =>
kv (pickV v2 v4 (.bool false)) fun v5 =>
kv (gdV v5 false (ldD (.agg 2) v0 h)) fun v6 =>
gdC v5 false h (fun K7 => cl (F.op_Client E) [v6] h fun v h => K7 v h) fun v8 h =>
kv (gdV v5 false (aUn .not v8)) fun v9 =>
kv (pickV v5 (.bool true) v9) fun v10 =>
kv (gdV v10 false (some a2)) fun v11 =>
kv (gdV v10 false (binD .bad .lss true v11 (.int .i64 0) h)) fun v12 =>
kv (pickV v10 (.bool true) v12) fun v13 =>
kv (gdV v13 false (some a2)) fun v14 =>
kv (gdV v13 false (binD .bad .geq true v14 (.int .i64 3) h)) fun v15 =>
kv (pickV v13 (.bool true) v15) fun v16 =>
ifV v16 (
kv (buildD (.struct [(.int .i64 0), (.slice none 0 0), (.slice none 0 0)] [(0, 1), (1, 1), (2, 1)]) []) fun v17 =>
kH (stD (some 3) v1 v17 h) fun _ h =>
kv (ldD (.agg 3) v1 h) fun r18 =>
K (.tuple #[r18, (.bool false)]) h) (
kv (fieldAddrD (some 0) v0) fun v19 =>
kv (ldD .one v19 h) fun v20 =>
kv (fieldAddrD (some 1) v0) fun v21 =>
kv (ldD .one v21 h) fun v22 =>
cl (F.op_bit E) [a3] h fun v23 h =>
ldD .one v19 h = some v20 ∧
ldD .one v21 h = some v22 ∧
kP (buildSliceD (some (1, [(.int .i64 0)])) 4 [(0, v20), (1, v22), (2, a2), (3, v23)] h) fun v24 h =>
kv (buildD (.struct [(.int .i64 0), (.slice none 0 0), (.slice none 0 0)] [(0, 1), (1, 1), (2, 1)]) [(0, a0), (1, v24)]) fun v25 =>
kH (stD (some 3) v1 v25 h) fun _ h =>
kv (ldD (.agg 3) v1 h) fun r26 =>
K (.tuple #[r26, (.bool true)]) h)
| _ => False
def F.op_Of (E : FE) : Spec := fun args h K => match args with
| [a0, a1, a2] =>
cl (F.op_Parts E) [a0, a2] h fun v0 h =>
kv (binD .bad .lss true a1 (.int .i64 0) h) fun v1 =>
kv (gdV v1 false (some a1)) fun v2 =>
kv (gdV v1 false (some v0)) fun v3 =>
kv (gdV v1 false (lenD .slice v3 h)) fun v4 =>
kv (gdV v1 false (binD .bad .geq false v2 v4 h)) fun v5 =>
kv (pickV v1 (.bool true) v5) fun v6 =>
ifV v6 (
K (.slice none 0 0) h) (
kv (indexAddrD (.slice 1) v0 a1) fun v7 =>
kv (ldD .one v7 h) fun v8 =>
kv (lenD .slice v8 h) fun v9 =>
∃ (Inv10 : Nat → List V → AHeap → Prop) (n10 : Nat), Inv10 n10 [(.slice none 0 0), (.int .i64 0)] h ∧ ∀ (n10 : Nat) (e10 : Nat → V) (h : AHeap), Inv10 n10 [(e10 8), (e10 27)] h →
kv (binD .bad .lss false (e10 27) v9 h) fun v11 =>
ifV v11 (
kv (indexAddrD (.slice 1) v8 (e10 27)) fun v12 =>
kv (ldD .one v12 h) fun v13 =>
kv (indexAddrD (.slice 5) a0 v13) fun v14 =>
kv (ldD (.agg 5) v14 h) fun v15 =>
kP (buildSliceD (some (5, [(.int .i64 0), (.string ⟨#[]⟩), (.string ⟨#[]⟩), (.string ⟨#[]⟩), (.int .i64 0)])) 1 [(0, v15)] h) fun v16 h =>
kP (appendD (some (5, 64, [(.int .i64 0), (.string ⟨#[]⟩), (.string ⟨#[]⟩), (.string ⟨#[]⟩), (.int .i64 0)])) (e10 8) v16 h) fun v17 h =>
kv (binD .bad .add true (e10 27) (.int .i64 1) h) fun v18 =>
∃ m, m < n10 ∧ Inv10 m [v17, v18] h) (
K (e10 8) h))
| _ => False
def F.op_Put (E : FE) : Spec := fun args h K => match args with
| [a0, a1, a2] =>
kP (newD none a0 h) fun v0 h =>
kP (newD none (.agg #[(.int .i64 0), (.slice none 0 0), (.slice none 0 0)]) h) fun v1 h =>
kv (binD .bad .neq true a2 (.int .i64 3) h) fun v2 =>
kv (gdV v2 true (some a2)) fun v3 =>
kv (gdV v2 true (binD .bad .neq true v3 (.int .i64 4) h)) fun v4 =>
kv (pickV v2 v4 (.bool false)) fun v5 =>
kv (gdV v5 false (ldD (.agg 2) v0 h)) fun v6 =>
gdC v5 false h (fun K7 => cl (F.op_Client E) [v6] h fun v h => K7 v h) fun v8 h =>
kv (gdV v5 false (aUn .not v8)) fun v9 =>
kv (pickV v5 (.bool true) v9) fun v10 =>
kv (gdV v10 false (some a1)) fun v11 =>
gdC v10 false h (fun K12 => cl (F.op_All E) [v11] h fun v h => K12 v h) fun v13 h =>
kv (gdV v10 false (aUn .not v13)) fun v14 =>
kv (pickV v10 (.bool true) v14) fun v15 =>
ifV v15 (
kv (buildD (.struct [(.int .i64 0), (.slice none 0 0), (.slice none 0 0)] [(0, 1), (1, 1), (2, 1)]) []) fun v16 =>
kH (stD (some 3) v1 v16 h) fun _ h =>
kv (ldD (.agg 3) v1 h) fun r17 =>
K (.tuple #[r17, (.bool false)]) h) (
kv (fieldAddrD (some 0) v0) fun v18 =>
kv (ldD .one v18 h) fun v19 =>
kv (fieldAddrD (some 1) v0) fun v20 =>
kv (ldD .one v20 h) fun v21 =>
kP (buildSliceD (some (1, [(.int .i64 0)])) 2 [(0, v19), (1, v21)] h) fun v22 h =>
kv (buildD (.struct [(.int .i64 0), (.slice none 0 0), (.slice none 0 0)] [(0, 1), (1, 1), (2, 1)]) [(0, a2), (1, v22)]) fun v23 =>
kP (newD none (.agg #[(.int .i64 0), (.slice none 0 0), (.slice none 0 0)]) h) fun v24 h =>
kH (stD (some 3) v24 v23 h) fun _ h =>
kv (lenD .slice a1 h) fun v25 =>
∃ (Inv26 : Nat → List V → AHeap → Prop) (n26 : Nat), Inv26 n26 [(.int .i64 0)] h ∧ ∀ (n26 : Nat) (e26 : Nat → V) (h : AHeap), Inv26 n26 [(e26 37)] h →
kv (binD .bad .lss false (e26 37) v25 h) fun v27 =>
ifV v27 (
kv (indexAddrD (.slice 5) a1 (e26 37)) fun v28 =>
kv (ldD (.agg 5) v28 h) fun v29 =>
kP (newD none (.agg #[(.int .i64 0), (.string ⟨#[]⟩), (.string ⟨#[]⟩), (.string ⟨#[]⟩), (.int .i64 0)]) h) fun v30 h =>
kH (stD (some 5) v30 v29 h) fun _ h =>
kv (fieldAddrD (some 1) v24) fun v31 =>
kv (ldD .one v31 h) fun v32 =>
kv (fieldAddrD (some 0) v30) fun v33 =>
kv (ldD .one v33 h) fun v34 =>
kv (fieldAddrD (some 4) v30) fun v35 =>
kv (ldD .one v35 h) fun v36 =>
kP (buildSliceD (some (1, [(.int .i64 0)])) 2 [(0, v34), (1, v36)] h) fun v37 h =>
kP (appendD (some (1, 8, [(.int .i64 0)])) v32 v37 h) fun v38 h =>
kv (fieldAddrD (some 1) v24) fun v39 =>
kH (stD (some 1) v39 v38 h) fun _ h =>
kv (fieldAddrD (some 2) v24) fun v40 =>
kv (ldD .one v40 h) fun v41 =>
kv (fieldAddrD (some 1) v30) fun v42 =>
kv (ldD .one v42 h) fun v43 =>
kv (fieldAddrD (some 2) v30) fun v44 =>
kv (ldD .one v44 h) fun v45 =>
kv (fieldAddrD (some 3) v30) fun v46 =>
kv (ldD .one v46 h) fun v47 =>
kP (buildSliceD (some (1, [(.string ⟨#[]⟩)])) 3 [(0, v43), (1, v45), (2, v47)] h) fun v48 h =>
kP (appendD (some (1, 16, [(.string ⟨#[]⟩)])) v41 v48 h) fun v49 h =>
kv (fieldAddrD (some 2) v24) fun v50 =>
kH (stD (some 1) v50 v49 h) fun _ h =>
kv (binD .bad .add true (e26 37) (.int .i64 1) h) fun v51 =>
∃ m, m < n26 ∧ Inv26 m [v51] h) (
kv (ldD (.agg 3) v24 h) fun v52 =>
kH (stD (some 3) v1 v52 h) fun _ h =>
kv (ldD (.agg 3) v1 h) fun r53 =>
K (.tuple #[r53, (.bool true)]) h))
| _ => False
def F.desk_Desk_wants (E : FE) : Spec := fun args h K => match args with
| [a0, a1, a2] =>
kP (newD none a1 h) fun v0 h =>
cl (F.desk_trans_shards E) [a2] h fun v1 h =>
kv (lenD .slice v1 h) fun v2 =>
∃ (Inv3 : Nat → List V → AHeap → Prop) (n3 : Nat), Inv3 n3 [(.slice none 0 0), (.int .i64 0)] h ∧ ∀ (n3 : Nat) (e3 : Nat → V) (h : AHeap), Inv3 n3 [(e3 7), (e3 17)] h →
kv (binD .bad .lss false (e3 17) v2 h) fun v4 =>
ifV v4 (
kv (indexAddrD (.slice 1) v1 (e3 17)) fun v5 =>
kv (ldD .one v5 h) fun v6 =>
kP (newD none (.agg #[(.int .i64 0), (.int .i64 0), (.slice none 0 0), (.slice none 0 0)]) h) fun v7 h =>
kv (aNil a2) fun v8 =>
kv (fieldAddrD (some 2) v8) fun v9 =>
kv (ldD .one v9 h) fun v10 =>
kv (lookupD (some (.int, (some (.agg #[(.int .i64 0), (.int .i64 0), (.int .i64 0), (.bool false), (.int .i64 0), (.slice none 0 0)])))) v10 v6 true h) fun v11 =>
kv (aExtract v11 0) fun v12 =>
kv (aExtract v11 1) fun v13 =>
kP (newD none (.agg #[(.int .i64 0), (.int .i64 0), (.int .i64 0), (.bool false), (.int .i64 0), (.slice none 0 0)]) h) fun v14 h =>
kH (stD (some 6) v14 v12 h) fun _ h =>
∃ K15 : List V → AHeap → Prop, (
kv (aNil a2) fun v16 =>
kv (fieldAddrD (some 3) v16) fun v17 =>
kv (ldD .one v17 h) fun v18 =>
kv (gdV v18 true (some a2)) fun v19 =>
kv (gdV v18 true (aNil v19)) fun v20 =>
kv (gdV v18 true (fieldAddrD (some 5) v20)) fun v21 =>
kv (gdV v18 true (ldD .one v21 h)) fun v22 =>
kv (gdV v18 true (some v6)) fun v23 =>
kv (gdV v18 true (lookupD (some (.int, (some (.bool false)))) v22 v23 false h)) fun v24 =>
kv (gdV v18 true (aUn .not v24)) fun v25 =>
kv (pickV v18 v25 (.bool false)) fun v26 =>
ifV v26 (
kv (ldD (.agg 2) v0 h) fun v27 =>
kv (aNil a2) fun v28 =>
kv (fieldAddrD (some 4) v28) fun v29 =>
kv (ldD .one v29 h) fun v30 =>
cl (F.op_Word E) [(.int .i64 6), v27, v6, v30] h fun v31 h =>
kv (aExtract v31 0) fun v32 =>
kv (aExtract v31 1) fun v33 =>
kv (fieldAddrD (some 1) v7) fun v34 =>
kH (stD (some 3) v34 v32 h) fun _ h =>
K15 [v33] h) (
kv (aNil a2) fun v35 =>
kv (fieldAddrD (some 3) v35) fun v36 =>
kv (ldD .one v36 h) fun v37 =>
kv (aUn .not v37) fun v38 =>
kv (gdV v38 true (some v13)) fun v39 =>
kv (gdV v38 true (aUn .not v39)) fun v40 =>
kv (pickV v38 v40 (.bool false)) fun v41 =>
ifV v41 (
kv (ldD (.agg 2) v0 h) fun v42 =>
kv (aNil a2) fun v43 =>
kv (fieldAddrD (some 0) v43) fun v44 =>
kv (ldD .one v44 h) fun v45 =>
kv (aNil a0) fun v46 =>
kv (fieldAddrD (some 0) v46) fun v47 =>
kv (ldD .one v47 h) fun v48 =>
cl (F.op_Of E) [v45, v6, v48] h fun v49 h =>
ldD (.agg 2) v0 h = some v42 ∧
cl (F.op_Put E) [v42, v49, (.int .i64 4)] h fun v50 h =>
kv (aExtract v50 0) fun v51 =>
kv (aExtract v50 1) fun v52 =>
kv (fieldAddrD (some 1) v7) fun v53 =>
kH (stD (some 3) v53 v51 h) fun _ h =>
K15 [v52] h) (
K15 [(.bool false)] h))) ∧ ∀ (e15 : Nat → V) (h : AHeap), K15 [(e15 11)] h →
kv (fieldAddrD (some 0) v7) fun v54 =>
kH (stD (some 1) v54 v6 h) fun _ h =>
ifV (e15 11) (
kv (ldD (.agg 4) v7 h) fun v55 =>
kP (buildSliceD (some (4, [(.int .i64 0), (.int .i64 0), (.slice none 0 0), (.slice none 0 0)])) 1 [(0, v55)] h) fun v56 h =>
kP (appendD (some (4, 64, [(.int .i64 0), (.int .i64 0), (.slice none 0 0), (.slice none 0 0)])) (e3 7) v56 h) fun v57 h =>
kv (binD .bad .add true (e3 17) (.int .i64 1) h) fun v58 =>
∃ m, m < n3 ∧ Inv3 m [v57, v58] h) (
kv (binD .bad .add true (e3 17) (.int .i64 1) h) fun v59 =>
∃ m, m < n3 ∧ Inv3 m [(e3 7), v59] h)) (
K (e3 7) h)
| _ => False
def F.desk_Desk_Wants (E : FE) : Spec := fun args h K => match args with
| [a0] =>
cl (F.desk_Desk_Open E) [a0] h fun v0 h =>
kv (lenD .slice v0 h) fun v1 =>
∃ (Inv2 : Nat → List V → AHeap → Prop) (n2 : Nat), Inv2 n2 [(.slice none 0 0), (.int .i64 0)] h ∧ ∀ (n2 : Nat) (e2 : Nat → V) (h : AHeap), Inv2 n2 [(e2 3), (e2 9)] h →
kv (binD .bad .lss false (e2 9) v1 h) fun v3 =>
ifV v3 (
kv (indexAddrD (.slice 2) v0 (e2 9)) fun v4 =>
kv (ldD (.agg 2) v4 h) fun v5 =>
kP (newD none (.agg #[(.int .i64 0), (.int .i64 0)]) h) fun v6 h =>
kH (stD (some 2) v6 v5 h) fun _ h =>
kv (ldD (.agg 2) v6 h) fun v7 =>
kv (aNil a0) fun v8 =>
kv (fieldAddrD (some 2) v8) fun v9 =>
kv (ldD .one v9 h) fun v10 =>
kv (ldD (.agg 2) v6 h) fun v11 =>
kv (lookupD (some ((.struct false [(0, .int), (1, .int)]), (some (.pointer none)))) v10 v11 false h) fun v12 =>
cl (F.desk_Desk_wants E) [a0, v7, v12] h fun v13 h =>
kP (appendD (some (4, 64, [(.int .i64 0), (.int .i64 0), (.slice none 0 0), (.slice none 0 0)])) (e2 3) v13 h) fun v14 h =>
kv (binD .bad .add true (e2 9) (.int .i64 1) h) fun v15 =>
∃ m, m < n2 ∧ Inv2 m [v14, v15] h) (
K (e2 3) h)
| _ => False
def F.slices_Clone_Sstring_string (E : FE) : Spec := fun args h K => match args with
| [a0] =>
kv (binD .slice .eql true a0 (.slice none 0 0) h) fun v0 =>
ifV v0 (
K (.slice none 0 0) h) (
kP (buildSliceD (some (1, [(.string ⟨#[]⟩)])) 0 [] h) fun v1 h =>
kP (appendD (some (1, 16, [(.string ⟨#[]⟩)])) v1 a0 h) fun v2 h =>
K v2 h)
| _ => False
def F.desk_Desk_keep (E : FE) : Spec := fun args h K => match args with
| [a0, a1, a2] =>
kP (newD none a1 h) fun v0 h =>
kv (ldD (.agg 2) v0 h) fun v1 =>
kv (buildD (.struct [(.int .i64 0), (.int .i64 0), (.int .i64 0), (.slice none 0 0)] [(0, 2), (2, 1), (3, 1)]) [(0, v1), (1, (.int .i64 4))]) fun v2 =>
kP (newD none (.agg #[(.int .i64 0), (.int .i64 0), (.int .i64 0), (.slice none 0 0)]) h) fun v3 h =>
kH (stD (some 4) v3 v2 h) fun _ h =>
kv (aNil a2) fun v4 =>
kv (fieldAddrD (some 4) v4) fun v5 =>
kv (ldD .one v5 h) fun v6 =>
∃ K7 : List V → AHeap → Prop, (
ifV v6 (
∃ K8 : List V → AHeap → Prop, (
kv (aNil a2) fun v9 =>
kv (fieldAddrD (some 0) v9) fun v10 =>
kv (ldD .one v10 h) fun v11 =>
kv (lenD .slice v11 h) fun v12 =>
kv (aNil a2) fun v13 =>
kv (fieldAddrD (some 0) v13) fun v14 =>
kv (ldD .one v14 h) fun v15 =>
kv (lenD .slice v15 h) fun v16 =>
kv (fieldAddrD (some 2) v3) fun v17 =>
((kP (makeSliceD (some (1, 16, [(.string ⟨#[]⟩)])) v12 v12 h) fun v18 h =>
ldD .one v14 h = some v15 ∧
(kP (makeSliceD (some (1, 8, [(.int .i64 0)])) v16 v16 h) fun v19 h =>
ldD .one v10 h = some v11 ∧
kH (stD (some 1) v17 (.int .i64 0) h) fun _ h =>
ldD .one v10 h = some v11 ∧
ldD .one v14 h = some v15 ∧
kv (fieldAddrD (some 3) v3) fun v20 =>
kH (stD (some 1) v20 v18 h) fun _ h =>
ldD .one v14 h = some v15 ∧
kv (aNil a2) fun v21 =>
kv (fieldAddrD (some 6) v21) fun v22 =>
kH (stD (some 1) v22 v19 h) fun _ h =>
K8 [] h) ∧
(kH (stD (some 1) v17 (.int .i64 0) h) fun _ h =>
ldD .one v10 h = some v11 ∧
ldD .one v14 h = some v15 ∧
kv (fieldAddrD (some 3) v3) fun v23 =>
(kP (makeSliceD (some (1, 8, [(.int .i64 0)])) v16 v16 h) fun v24 h =>
ldD .one v10 h = some v11 ∧
kH (stD (some 1) v23 v18 h) fun _ h =>
ldD .one v14 h = some v15 ∧
kv (aNil a2) fun v25 =>
kv (fieldAddrD (some 6) v25) fun v26 =>
kH (stD (some 1) v26 v24 h) fun _ h =>
K8 [] h) ∧
(kH (stD (some 1) v23 v18 h) fun _ h =>
ldD .one v14 h = some v15 ∧
kP (makeSliceD (some (1, 8, [(.int .i64 0)])) v16 v16 h) fun v27 h =>
ldD .one v10 h = some v11 ∧
kv (aNil a2) fun v28 =>
kv (fieldAddrD (some 6) v28) fun v29 =>
kH (stD (some 1) v29 v27 h) fun _ h =>
K8 [] h))) ∧
(kP (makeSliceD (some (1, 8, [(.int .i64 0)])) v16 v16 h) fun v30 h =>
ldD .one v10 h = some v11 ∧
(kP (makeSliceD (some (1, 16, [(.string ⟨#[]⟩)])) v12 v12 h) fun v31 h =>
ldD .one v14 h = some v15 ∧
kH (stD (some 1) v17 (.int .i64 0) h) fun _ h =>
ldD .one v10 h = some v11 ∧
ldD .one v14 h = some v15 ∧
kv (fieldAddrD (some 3) v3) fun v32 =>
kH (stD (some 1) v32 v31 h) fun _ h =>
ldD .one v14 h = some v15 ∧
kv (aNil a2) fun v33 =>
kv (fieldAddrD (some 6) v33) fun v34 =>
kH (stD (some 1) v34 v30 h) fun _ h =>
K8 [] h) ∧
(kH (stD (some 1) v17 (.int .i64 0) h) fun _ h =>
ldD .one v10 h = some v11 ∧
ldD .one v14 h = some v15 ∧
kP (makeSliceD (some (1, 16, [(.string ⟨#[]⟩)])) v12 v12 h) fun v35 h =>
ldD .one v14 h = some v15 ∧
kv (fieldAddrD (some 3) v3) fun v36 =>
kH (stD (some 1) v36 v35 h) fun _ h =>
ldD .one v14 h = some v15 ∧
kv (aNil a2) fun v37 =>
kv (fieldAddrD (some 6) v37) fun v38 =>
kH (stD (some 1) v38 v30 h) fun _ h =>
K8 [] h))) ∧
(kH (stD (some 1) v17 (.int .i64 0) h) fun _ h =>
ldD .one v10 h = some v11 ∧
ldD .one v14 h = some v15 ∧
(kP (makeSliceD (some (1, 16, [(.string ⟨#[]⟩)])) v12 v12 h) fun v39 h =>
ldD .one v14 h = some v15 ∧
kv (fieldAddrD (some 3) v3) fun v40 =>
(kP (makeSliceD (some (1, 8, [(.int .i64 0)])) v16 v16 h) fun v41 h =>
ldD .one v10 h = some v11 ∧
kH (stD (some 1) v40 v39 h) fun _ h =>
ldD .one v14 h = some v15 ∧
kv (aNil a2) fun v42 =>
kv (fieldAddrD (some 6) v42) fun v43 =>
kH (stD (some 1) v43 v41 h) fun _ h =>
K8 [] h) ∧
(kH (stD (some 1) v40 v39 h) fun _ h =>
ldD .one v14 h = some v15 ∧
kP (makeSliceD (some (1, 8, [(.int .i64 0)])) v16 v16 h) fun v44 h =>
ldD .one v10 h = some v11 ∧
kv (aNil a2) fun v45 =>
kv (fieldAddrD (some 6) v45) fun v46 =>
kH (stD (some 1) v46 v44 h) fun _ h =>
K8 [] h)) ∧
(kP (makeSliceD (some (1, 8, [(.int .i64 0)])) v16 v16 h) fun v47 h =>
ldD .one v10 h = some v11 ∧
kP (makeSliceD (some (1, 16, [(.string ⟨#[]⟩)])) v12 v12 h) fun v48 h =>
ldD .one v14 h = some v15 ∧
kv (fieldAddrD (some 3) v3) fun v49 =>
kH (stD (some 1) v49 v48 h) fun _ h =>
ldD .one v14 h = some v15 ∧
kv (aNil a2) fun v50 =>
kv (fieldAddrD (some 6) v50) fun v51 =>
kH (stD (some 1) v51 v47 h) fun _ h =>
K8 [] h))) ∧ ∀ (e8 : Nat → V) (h : AHeap), K8 [] h →
kv (aNil a2) fun v52 =>
kv (fieldAddrD (some 2) v52) fun v53 =>
kv (ldD .one v53 h) fun v54 =>
kP (rangeD .map v54 h) fun v55 h =>
∃ (Inv56 : Nat → List V → AHeap → Prop) (n56 : Nat), Inv56 n56 [] h ∧ ∀ (n56 : Nat) (e56 : Nat → V) (h : AHeap), Inv56 n56 [] h →
aNext v55 false h fun v57 h =>
kv (aExtract v57 0) fun v58 =>
ifV v58 (
kV (aEntry v55 h) h fun v59 h =>
kv (aExtract v59 0) fun v60 =>
kv (aExtract v59 1) fun v61 =>
kP (newD none (.agg #[(.int .i64 0), (.int .i64 0), (.int .i64 0), (.bool false), (.int .i64 0), (.slice none 0 0)]) h) fun v62 h =>
kH (stD (some 6) v62 v61 h) fun _ h =>
kv (aNil a2) fun v63 =>
kv (fieldAddrD (some 1) v63) fun v64 =>
kv (ldD .one v64 h) fun v65 =>
kv (indexAddrD (.slice 1) v65 v60) fun v66 =>
kv (ldD .one v66 h) fun v67 =>
kv (lenD .slice v67 h) fun v68 =>
∃ (Inv69 : Nat → List V → AHeap → Prop) (n69 : Nat), Inv69 n69 [(.int .i64 0)] h ∧ ∀ (n69 : Nat) (e69 : Nat → V) (h : AHeap), Inv69 n69 [(e69 53)] h →
kv (binD .bad .lss false (e69 53) v68 h) fun v70 =>
ifV v70 (
kv (indexAddrD (.slice 1) v67 (e69 53)) fun v71 =>
kv (ldD .one v71 h) fun v72 =>
kv (fieldAddrD (some 3) v3) fun v73 =>
kv (ldD .one v73 h) fun v74 =>
kv (aNil a2) fun v75 =>
kv (fieldAddrD (some 6) v75) fun v76 =>
kv (ldD .one v76 h) fun v77 =>
kv (fieldAddrD (some 5) v62) fun v78 =>
kv (ldD .one v78 h) fun v79 =>
kv (indexAddrD (.slice 1) v79 (e69 53)) fun v80 =>
kv (ldD .one v80 h) fun v81 =>
kv (fieldAddrD (some 4) v62) fun v82 =>
kv (ldD .one v82 h) fun v83 =>
kv (indexAddrD (.slice 1) v74 v72) fun v84 =>
kH (stD (some 1) v84 v81 h) fun _ h =>
ldD .one v82 h = some v83 ∧
kv (indexAddrD (.slice 1) v77 v72) fun v85 =>
kH (stD (some 1) v85 v83 h) fun _ h =>
kv (binD .bad .add true (e69 53) (.int .i64 1) h) fun v86 =>
∃ m, m < n69 ∧ Inv69 m [v86] h) (
∃ m, m < n56 ∧ Inv56 m [] h)) (
K7 [] h)) (
K7 [] h)) ∧ ∀ (e7 : Nat → V) (h : AHeap), K7 [] h →
kv (aNil a0) fun v87 =>
kv (fieldAddrD (some 3) v87) fun v88 =>
kv (ldD .one v88 h) fun v89 =>
kv (fieldAddrD (some 0) v0) fun v90 =>
kv (ldD .one v90 h) fun v91 =>
kv (lookupD (some (.int, (some (.slice none 0 0)))) v89 v91 false h) fun v92 =>
kv (ldD (.agg 4) v3 h) fun v93 =>
kP (buildSliceD (some (4, [(.int .i64 0), (.int .i64 0), (.int .i64 0), (.slice none 0 0)])) 1 [(0, v93)] h) fun v94 h =>
ldD .one v88 h = some v89 ∧
ldD .one v90 h = some v91 ∧
lookupD (some (.int, (some (.slice none 0 0)))) v89 v91 false h = some v92 ∧
kP (appendD (some (4, 48, [(.int .i64 0), (.int .i64 0), (.int .i64 0), (.slice none 0 0)])) v92 v94 h) fun v95 h =>
kv (aNil a0) fun v96 =>
kv (fieldAddrD (some 3) v96) fun v97 =>
kv (ldD .one v97 h) fun v98 =>
kv (fieldAddrD (some 0) v0) fun v99 =>
kv (ldD .one v99 h) fun v100 =>
kv (lenD .slice v95 h) fun v101 =>
kv (binD .bad .sub true v101 (.int .i64 8) h) fun v102 =>
kv (aMinMax true [v102, (.int .i64 0)]) fun v103 =>
kv (sliceD (.slice 4) v95 (some v103) none none h) fun v104 =>
kH (mapUpdateD (some (.int, (some (.slice none 0 0)))) v98 v100 v104 h) fun _ h =>
K (.tuple #[]) h
| _ => False
def F.desk_Desk_Vote (E : FE) : Spec := fun args h K => match args with
| [a0, a1] =>
kP (newD none a1 h) fun v0 h =>
kv (binD (.ptr true) .eql true a0 (.pointer none) h) fun v1 =>
ifV v1 (
K (.bool false) h) (
kv (aNil a0) fun v2 =>
kv (fieldAddrD (some 2) v2) fun v3 =>
kv (ldD .one v3 h) fun v4 =>
kv (fieldAddrD (some 0) v0) fun v5 =>
kv (ldD (.agg 2) v5 h) fun v6 =>
kv (lookupD (some ((.struct false [(0, .int), (1, .int)]), (some (.pointer none)))) v4 v6 false h) fun v7 =>
kv (binD (.ptr true) .eql true v7 (.pointer none) h) fun v8 =>
kv (gdV v8 false (some v7)) fun v9 =>
kv (gdV v8 false (aNil v9)) fun v10 =>
kv (gdV v8 false (fieldAddrD (some 3) v10)) fun v11 =>
kv (gdV v8 false (ldD .one v11 h)) fun v12 =>
kv (pickV v8 (.bool true) v12) fun v13 =>
kv (gdV v13 false (some v7)) fun v14 =>
kv (gdV v13 false (fieldAddrD (some 2) v0)) fun v15 =>
kv (gdV v13 false (ldD .one v15 h)) fun v16 =>
gdC v13 false h (fun K17 => cl (F.desk_trans_has E) [v14, v16] h fun v h => K17 v h) fun v18 h =>
kv (gdV v13 false (aUn .not v18)) fun v19 =>
kv (pickV v13 (.bool true) v19) fun v20 =>
ifV v20 (
K (.bool false) h) (
kv (aNil v7) fun v21 =>
kv (fieldAddrD (some 2) v21) fun v22 =>
kv (ldD .one v22 h) fun v23 =>
kv (fieldAddrD (some 2) v0) fun v24 =>
kv (ldD .one v24 h) fun v25 =>
kv (lookupD (some (.int, (some (.agg #[(.int .i64 0), (.int .i64 0), (.int .i64 0), (.bool false), (.int .i64 0), (.slice none 0 0)])))) v23 v25 true h) fun v26 =>
kv (aExtract v26 0) fun v27 =>
kv (aExtract v26 1) fun v28 =>
kP (newD none (.agg #[(.int .i64 0), (.int .i64 0), (.int .i64 0), (.bool false), (.int .i64 0), (.slice none 0 0)]) h) fun v29 h =>
ldD .one v22 h = some v23 ∧
ldD .one v24 h = some v25 ∧
lookupD (some (.int, (some (.agg #[(.int .i64 0), (.int .i64 0), (.int .i64 0), (.bool false), (.int .i64 0), (.slice none 0 0)])))) v23 v25 true h = some v26 ∧
kH (stD (some 6) v29 v27 h) fun _ h =>
kv (gdV v28 false (fieldAddrD (some 3) v0)) fun v30 =>
kv (gdV v28 false (ldD .one v30 h)) fun v31 =>
kv (gdV v28 false (some v31)) fun v32 =>
kv (gdV v32 true (fieldAddrD (some 5) v0)) fun v33 =>
kv (gdV v32 true (ldD .one v33 h)) fun v34 =>
kv (gdV v32 true (lenD .slice v34 h)) fun v35 =>
kv (gdV v32 true (some v7)) fun v36 =>
kv (gdV v32 true (aNil v36)) fun v37 =>
kv (gdV v32 true (fieldAddrD (some 1) v37)) fun v38 =>
kv (gdV v32 true (ldD .one v38 h)) fun v39 =>
kv (gdV v32 true (fieldAddrD (some 2) v0)) fun v40 =>
kv (gdV v32 true (ldD .one v40 h)) fun v41 =>
kv (gdV v32 true (indexAddrD (.slice 1) v39 v41)) fun v42 =>
kv (gdV v32 true (ldD .one v42 h)) fun v43 =>
kv (gdV v32 true (lenD .slice v43 h)) fun v44 =>
kv (gdV v32 true (binD .bad .neq false v35 v44 h)) fun v45 =>
kv (gdV v28 false (pickV v32 v45 (.bool false))) fun v46 =>
kv (pickV v28 (.bool true) v46) fun v47 =>
ifV v47 (
K (.bool false) h) (
kv (fieldAddrD (some 5) v0) fun v48 =>
kv (ldD .one v48 h) fun v49 =>
cl (F.slices_Clone_Sstring_string E) [v49] h fun v50 h =>
kv (fieldAddrD (some 5) v0) fun v51 =>
kH (stD (some 1) v51 v50 h) fun _ h =>
kv (aNil v7) fun v52 =>
kv (fieldAddrD (some 2) v52) fun v53 =>
kv (ldD .one v53 h) fun v54 =>
kv (fieldAddrD (some 2) v0) fun v55 =>
kv (ldD .one v55 h) fun v56 =>
kv (ldD (.agg 6) v0 h) fun v57 =>
kH (mapUpdateD (some (.int, (some (.agg #[(.int .i64 0), (.int .i64 0), (.int .i64 0), (.bool false), (.int .i64 0), (.slice none 0 0)])))) v54 v56 v57 h) fun _ h =>
kv (fieldAddrD (some 3) v0) fun v58 =>
kv (ldD .one v58 h) fun v59 =>
kv (gdV v59 true (some v7)) fun v60 =>
kv (gdV v59 true (aNil v60)) fun v61 =>
kv (gdV v59 true (fieldAddrD (some 2) v61)) fun v62 =>
kv (gdV v59 true (ldD .one v62 h)) fun v63 =>
kv (gdV v59 true (lenD .map v63 h)) fun v64 =>
kv (gdV v59 true (some v7)) fun v65 =>
gdC v59 true h (fun K66 => cl (F.desk_trans_shards E) [v65] h fun v h => K66 v h) fun v67 h =>
kv (gdV v59 true (lenD .slice v67 h)) fun v68 =>
kv (gdV v59 true (binD .bad .lss false v64 v68 h)) fun v69 =>
kv (pickV v59 v69 (.bool false)) fun v70 =>
ifV v70 (
K (.bool false) h) (
kv (fieldAddrD (some 3) v0) fun v71 =>
kv (ldD .one v71 h) fun v72 =>
kv (aNil v7) fun v73 =>
kv (fieldAddrD (some 3) v73) fun v74 =>
kH (stD (some 1) v74 (.bool true) h) fun _ h =>
ldD .one v71 h = some v72 ∧
kv (aNil v7) fun v75 =>
kv (fieldAddrD (some 4) v75) fun v76 =>
kH (stD (some 1) v76 v72 h) fun _ h =>
kv (fieldAddrD (some 0) v0) fun v77 =>
kv (ldD (.agg 2) v77 h) fun v78 =>
cl (F.desk_Desk_keep E) [a0, v78, v7] h fun v79 h =>
K (.bool true) h))))
| _ => False
def F.desk_Desk_Done (E : FE) : Spec := fun args h K => match args with
| [a0, a1, a2] =>
kP (newD none a1 h) fun v0 h =>
kv (binD (.ptr true) .eql true a0 (.pointer none) h) fun v1 =>
ifV v1 (
K (.bool false) h) (
kv (aNil a0) fun v2 =>
kv (fieldAddrD (some 2) v2) fun v3 =>
kv (ldD .one v3 h) fun v4 =>
kv (ldD (.agg 2) v0 h) fun v5 =>
kv (lookupD (some ((.struct false [(0, .int), (1, .int)]), (some (.pointer none)))) v4 v5 false h) fun v6 =>
kv (binD (.ptr true) .eql true v6 (.pointer none) h) fun v7 =>
kv (gdV v7 false (some v6)) fun v8 =>
kv (gdV v7 false (aNil v8)) fun v9 =>
kv (gdV v7 false (fieldAddrD (some 3) v9)) fun v10 =>
kv (gdV v7 false (ldD .one v10 h)) fun v11 =>
kv (gdV v7 false (aUn .not v11)) fun v12 =>
kv (pickV v7 (.bool true) v12) fun v13 =>
kv (gdV v13 false (some v6)) fun v14 =>
kv (gdV v13 false (some a2)) fun v15 =>
gdC v13 false h (fun K16 => cl (F.desk_trans_has E) [v14, v15] h fun v h => K16 v h) fun v17 h =>
kv (gdV v13 false (aUn .not v17)) fun v18 =>
kv (pickV v13 (.bool true) v18) fun v19 =>
kv (gdV v19 false (some v6)) fun v20 =>
kv (gdV v19 false (aNil v20)) fun v21 =>
kv (gdV v19 false (fieldAddrD (some 5) v21)) fun v22 =>
kv (gdV v19 false (ldD .one v22 h)) fun v23 =>
kv (gdV v19 false (some a2)) fun v24 =>
kv (gdV v19 false (lookupD (some (.int, (some (.bool false)))) v23 v24 false h)) fun v25 =>
kv (pickV v19 (.bool true) v25) fun v26 =>
ifV v26 (
K (.bool false) h) (
kv (aNil v6) fun v27 =>
kv (fieldAddrD (some 5) v27) fun v28 =>
kv (ldD .one v28 h) fun v29 =>
kH (mapUpdateD (some (.int, (some (.bool false)))) v29 a2 (.bool true) h) fun _ h =>
kv (aNil v6) fun v30 =>
kv (fieldAddrD (some 5) v30) fun v31 =>
kv (ldD .one v31 h) fun v32 =>
kv (lenD .map v32 h) fun v33 =>
cl (F.desk_trans_shards E) [v6] h fun v34 h =>
kv (lenD .slice v34 h) fun v35 =>
kv (binD .bad .eql false v33 v35 h) fun v36 =>
ifV v36 (
kv (aNil a0) fun v37 =>
kv (fieldAddrD (some 2) v37) fun v38 =>
kv (ldD .one v38 h) fun v39 =>
kv (ldD (.agg 2) v0 h) fun v40 =>
kH (deleteD (some ((.struct false [(0, .int), (1, .int)]), (some (.pointer none)))) v39 v40 h) fun _ h =>
K (.bool true) h) (
K (.bool true) h)))
| _ => False
def F.estafetteref12_Client (E : FE) : Spec := fun args h K => match args with
| [a0] =>
kP (newD none a0 h) fun v0 h =>
kv (fieldAddrD (some 0) v0) fun v1 =>
kv (ldD .one v1 h) fun v2 =>
kv (binD .bad .geq true v2 (.int .i64 0) h) fun v3 =>
kv (gdV v3 true (fieldAddrD (some 0) v0)) fun v4 =>
kv (gdV v3 true (ldD .one v4 h)) fun v5 =>
kv (gdV v3 true (binD .bad .leq true v5 (.int .i64 8) h)) fun v6 =>
kv (pickV v3 v6 (.bool false)) fun v7 =>
kv (gdV v7 true (fieldAddrD (some 1) v0)) fun v8 =>
kv (gdV v7 true (ldD .one v8 h)) fun v9 =>
kv (gdV v7 true (binD .bad .geq true v9 (.int .i64 1) h)) fun v10 =>
kv (pickV v7 v10 (.bool false)) fun v11 =>
kv (gdV v11 true (fieldAddrD (some 1) v0)) fun v12 =>
kv (gdV v11 true (ldD .one v12 h)) fun v13 =>
kv (gdV v11 true (binD .bad .leq true v13 (.int .i64 1099511627776) h)) fun v14 =>
kv (pickV v11 v14 (.bool false)) fun v15 =>
K v15 h
| _ => False
def F.estafetteref12_small (E : FE) : Spec := fun args h K => match args with
| [a0] =>
∃ (Inv0 : Nat → List V → AHeap → Prop) (n0 : Nat), Inv0 n0 [(.int .i64 0)] h ∧ ∀ (n0 : Nat) (e0 : Nat → V) (h : AHeap), Inv0 n0 [(e0 3)] h →
kv (lenD .str a0 h) fun v1 =>
kv (binD .bad .lss false (e0 3) v1 h) fun v2 =>
ifV v2 (
kv (indexD .str a0 (e0 3)) fun v3 =>
kv (binD .bad .lss true v3 (.int .u8 97) h) fun v4 =>
kv (gdV v4 false (some a0)) fun v5 =>
kv (gdV v4 false (some (e0 3))) fun v6 =>
kv (gdV v4 false (indexD .str v5 v6)) fun v7 =>
kv (gdV v4 false (binD .bad .gtr true v7 (.int .u8 122) h)) fun v8 =>
kv (pickV v4 (.bool true) v8) fun v9 =>
ifV v9 (
K (.bool false) h) (
kv (binD .bad .add true (e0 3) (.int .i64 1) h) fun v10 =>
∃ m, m < n0 ∧ Inv0 m [v10] h)) (
kv (lenD .str a0 h) fun v11 =>
kv (binD .bad .geq true v11 (.int .i64 1) h) fun v12 =>
kv (gdV v12 true (some a0)) fun v13 =>
kv (gdV v12 true (lenD .str v13 h)) fun v14 =>
kv (gdV v12 true (binD .bad .leq true v14 (.int .i64 20) h)) fun v15 =>
kv (pickV v12 v15 (.bool false)) fun v16 =>
K v16 h)
| _ => False
def F.estafetteref12_May (E : FE) : Spec := fun args h K => match args with
| [a0] =>
kP (newD none a0 h) fun v0 h =>
kv (fieldAddrD (some 1) v0) fun v1 =>
kv (ldD .one v1 h) fun v2 =>
cl (F.estafetteref12_small E) [v2] h fun v3 h =>
kv (aUn .not v3) fun v4 =>
kv (gdV v4 false (fieldAddrD (some 2) v0)) fun v5 =>
kv (gdV v4 false (ldD .one v5 h)) fun v6 =>
kv (gdV v4 false (lenD .str v6 h)) fun v7 =>
kv (gdV v4 false (binD .bad .gtr true v7 (.int .i64 20) h)) fun v8 =>
kv (pickV v4 (.bool true) v8) fun v9 =>
kv (gdV v9 false (fieldAddrD (some 3) v0)) fun v10 =>
kv (gdV v9 false (ldD .one v10 h)) fun v11 =>
kv (gdV v9 false (lenD .str v11 h)) fun v12 =>
kv (gdV v9 false (binD .bad .gtr true v12 (.int .i64 100) h)) fun v13 =>
kv (pickV v9 (.bool true) v13) fun v14 =>
kv (gdV v14 false (fieldAddrD (some 4) v0)) fun v15 =>
kv (gdV v14 false (ldD .one v15 h)) fun v16 =>
kv (gdV v14 false (binD .bad .lss true v16 (.int .i64 0) h)) fun v17 =>
kv (pickV v14 (.bool true) v17) fun v18 =>
kv (gdV v18 false (fieldAddrD (some 4) v0)) fun v19 =>
kv (gdV v18 false (ldD .one v19 h)) fun v20 =>
kv (gdV v18 false (binD .bad .gtr true v20 (.int .i64 1099511627776) h)) fun v21 =>
kv (pickV v18 (.bool true) v21) fun v22 =>
ifV v22 (
K (.bool false) h) (
kv (fieldAddrD (some 2) v0) fun v23 =>
kv (ldD .one v23 h) fun v24 =>
kv (binD .bad .neq true v24 (.string ⟨#[]⟩) h) fun v25 =>
kv (fieldAddrD (some 3) v0) fun v26 =>
kv (ldD .one v26 h) fun v27 =>
kv (binD .bad .neq true v27 (.string ⟨#[]⟩) h) fun v28 =>
kv (fieldAddrD (some 4) v0) fun v29 =>
kv (ldD .one v29 h) fun v30 =>
kv (binD .bad .neq true v30 (.int .i64 0) h) fun v31 =>
kv (fieldAddrD (some 0) v0) fun v32 =>
kv (ldD .one v32 h) fun v33 =>
kv (binD .bad .eql true v33 (.int .i64 1) h) fun v34 =>
ifV v34 (
kv (fieldAddrD (some 2) v0) fun v35 =>
kv (ldD .one v35 h) fun v36 =>
kv (lenD .str v36 h) fun v37 =>
kv (binD .bad .eql true v37 (.int .i64 1) h) fun v38 =>
kv (gdV v38 true (fieldAddrD (some 2) v0)) fun v39 =>
kv (gdV v38 true (ldD .one v39 h)) fun v40 =>
kv (gdV v38 true (indexD .str v40 (.int .i64 0))) fun v41 =>
kv (gdV v38 true (binD .bad .geq true v41 (.int .u8 49) h)) fun v42 =>
kv (pickV v38 v42 (.bool false)) fun v43 =>
kv (gdV v43 true (fieldAddrD (some 2) v0)) fun v44 =>
kv (gdV v43 true (ldD .one v44 h)) fun v45 =>
kv (gdV v43 true (indexD .str v45 (.int .i64 0))) fun v46 =>
kv (gdV v43 true (binD .bad .leq true v46 (.int .u8 57) h)) fun v47 =>
kv (pickV v43 v47 (.bool false)) fun v48 =>
kv (fieldAddrD (some 4) v0) fun v49 =>
kv (ldD .one v49 h) fun v50 =>
kv (binD .bad .geq true v50 (.int .i64 1) h) fun v51 =>
kv (gdV v51 true (fieldAddrD (some 4) v0)) fun v52 =>
kv (gdV v51 true (ldD .one v52 h)) fun v53 =>
kv (gdV v51 true (binD .bad .leq true v53 (.int .i64 3) h)) fun v54 =>
kv (pickV v51 v54 (.bool false)) fun v55 =>
kv (gdV v55 true (some v28)) fun v56 =>
kv (gdV v55 true (aUn .not v56)) fun v57 =>
kv (pickV v55 v57 (.bool false)) fun v58 =>
kv (gdV v58 true (some v48)) fun v59 =>
kv (gdV v58 true (some v59)) fun v60 =>
kv (gdV v60 false (some v25)) fun v61 =>
kv (gdV v60 false (aUn .not v61)) fun v62 =>
kv (gdV v60 false (some v62)) fun v63 =>
kv (gdV v63 true (fieldAddrD (some 4) v0)) fun v64 =>
kv (gdV v63 true (ldD .one v64 h)) fun v65 =>
kv (gdV v63 true (binD .bad .neq true v65 (.int .i64 2) h)) fun v66 =>
kv (gdV v60 false (pickV v63 v66 (.bool false))) fun v67 =>
kv (gdV v58 true (pickV v60 (.bool true) v67)) fun v68 =>
kv (pickV v58 v68 (.bool false)) fun v69 =>
K v69 h) (
kv (binD .bad .eql true v33 (.int .i64 2) h) fun v70 =>
∃ K71 : List V → AHeap → Prop, (
ifV v70 (
K71 [v70] h) (
kv (binD .bad .eql true v33 (.int .i64 9) h) fun v72 =>
K71 [v72] h)) ∧ ∀ (e71 : Nat → V) (h : AHeap), K71 [(e71 86)] h →
ifV (e71 86) (
kv (aUn .not v25) fun v73 =>
kv (gdV v73 true (some v28)) fun v74 =>
kv (gdV v73 true (aUn .not v74)) fun v75 =>
kv (pickV v73 v75 (.bool false)) fun v76 =>
kv (gdV v76 true (some v31)) fun v77 =>
kv (gdV v76 true (aUn .not v77)) fun v78 =>
kv (pickV v76 v78 (.bool false)) fun v79 =>
K v79 h) (
kv (binD .bad .eql true v33 (.int .i64 3) h) fun v80 =>
∃ K81 : List V → AHeap → Prop, (
ifV v80 (
K81 [v80] h) (
kv (binD .bad .eql true v33 (.int .i64 5) h) fun v82 =>
K81 [v82] h)) ∧ ∀ (e81 : Nat → V) (h : AHeap), K81 [(e81 99)] h →
ifV (e81 99) (
kv (aUn .not v28) fun v83 =>
kv (gdV v83 true (some v31)) fun v84 =>
kv (gdV v83 true (aUn .not v84)) fun v85 =>
kv (pickV v83 v85 (.bool false)) fun v86 =>
K v86 h) (
kv (binD .bad .eql true v33 (.int .i64 4) h) fun v87 =>
ifV v87 (
kv (aUn .not v31) fun v88 =>
K v88 h) (
kv (binD .bad .eql true v33 (.int .i64 6) h) fun v89 =>
∃ K90 : List V → AHeap → Prop, (
ifV v89 (
K90 [v89] h) (
kv (binD .bad .eql true v33 (.int .i64 10) h) fun v91 =>
K90 [v91] h)) ∧ ∀ (e90 : Nat → V) (h : AHeap), K90 [(e90 112)] h →
ifV (e90 112) (
kv (aUn .not v25) fun v92 =>
kv (gdV v92 true (some v31)) fun v93 =>
kv (gdV v92 true (aUn .not v93)) fun v94 =>
kv (pickV v92 v94 (.bool false)) fun v95 =>
K v95 h) (
kv (binD .bad .eql true v33 (.int .i64 7) h) fun v96 =>
ifV v96 (
kv (aUn .not v25) fun v97 =>
kv (gdV v97 true (some v28)) fun v98 =>
kv (gdV v97 true (aUn .not v98)) fun v99 =>
kv (pickV v97 v99 (.bool false)) fun v100 =>
K v100 h) (
kv (binD .bad .eql true v33 (.int .i64 8) h) fun v101 =>
∃ K102 : List V → AHeap → Prop, (
ifV v101 (
K102 [v101] h) (
kv (binD .bad .eql true v33 (.int .i64 11) h) fun v103 =>
K102 [v103] h)) ∧ ∀ (e102 : Nat → V) (h : AHeap), K102 [(e102 129)] h →
ifV (e102 129) (
kv (aUn .not v28) fun v104 =>
K v104 h) (
kv (binD .bad .eql true v33 (.int .i64 12) h) fun v105 =>
ifV v105 (
K (.bool true) h) (
K (.bool false) h)))))))))
| _ => False
def F.estafetteref12_All (E : FE) : Spec := fun args h K => match args with
| [a0] =>
∃ (Inv0 : Nat → List V → AHeap → Prop) (n0 : Nat), Inv0 n0 [(.int .i64 0)] h ∧ ∀ (n0 : Nat) (e0 : Nat → V) (h : AHeap), Inv0 n0 [(e0 3)] h →
kv (lenD .slice a0 h) fun v1 =>
kv (binD .bad .lss false (e0 3) v1 h) fun v2 =>
ifV v2 (
kv (indexAddrD (.slice 5) a0 (e0 3)) fun v3 =>
kv (ldD (.agg 5) v3 h) fun v4 =>
cl (F.estafetteref12_May E) [v4] h fun v5 h =>
kv (aUn .not v5) fun v6 =>
ifV v6 (
K (.bool false) h) (
kv (binD .bad .add true (e0 3) (.int .i64 1) h) fun v7 =>
∃ m, m < n0 ∧ Inv0 m [v7] h)) (
kv (lenD .slice a0 h) fun v8 =>
kv (binD .bad .geq true v8 (.int .i64 1) h) fun v9 =>
kv (gdV v9 true (some a0)) fun v10 =>
kv (gdV v9 true (lenD .slice v10 h)) fun v11 =>
kv (gdV v9 true (binD .bad .leq true v11 (.int .i64 8) h)) fun v12 =>
kv (pickV v9 v12 (.bool false)) fun v13 =>
K v13 h)
| _ => False
def F.estafetteref12_Put (E : FE) : Spec := fun args h K => match args with
| [a0, a1, a2] =>
kP (newD none a0 h) fun v0 h =>
kP (newD none (.agg #[(.int .i64 0), (.slice none 0 0), (.slice none 0 0)]) h) fun v1 h =>
kv (binD .bad .neq true a2 (.int .i64 3) h) fun v2 =>
kv (gdV v2 true (some a2)) fun v3 =>
kv (gdV v2 true (binD .bad .neq true v3 (.int .i64 4) h)) fun v4 =>
kv (pickV v2 v4 (.bool false)) fun v5 =>
kv (gdV v5 false (ldD (.agg 2) v0 h)) fun v6 =>
gdC v5 false h (fun K7 => cl (F.estafetteref12_Client E) [v6] h fun v h => K7 v h) fun v8 h =>
kv (gdV v5 false (aUn .not v8)) fun v9 =>
kv (pickV v5 (.bool true) v9) fun v10 =>
kv (gdV v10 false (some a1)) fun v11 =>
gdC v10 false h (fun K12 => cl (F.estafetteref12_All E) [v11] h fun v h => K12 v h) fun v13 h =>
kv (gdV v10 false (aUn .not v13)) fun v14 =>
kv (pickV v10 (.bool true) v14) fun v15 =>
ifV v15 (
kv (buildD (.struct [(.int .i64 0), (.slice none 0 0), (.slice none 0 0)] [(0, 1), (1, 1), (2, 1)]) []) fun v16 =>
kH (stD (some 3) v1 v16 h) fun _ h =>
kv (ldD (.agg 3) v1 h) fun r17 =>
K (.tuple #[r17, (.bool false)]) h) (
kv (fieldAddrD (some 0) v0) fun v18 =>
kv (ldD .one v18 h) fun v19 =>
kv (fieldAddrD (some 1) v0) fun v20 =>
kv (ldD .one v20 h) fun v21 =>
kP (buildSliceD (some (1, [(.int .i64 0)])) 2 [(0, v19), (1, v21)] h) fun v22 h =>
kv (buildD (.struct [(.int .i64 0), (.slice none 0 0), (.slice none 0 0)] [(0, 1), (1, 1), (2, 1)]) [(0, a2), (1, v22)]) fun v23 =>
kP (newD none (.agg #[(.int .i64 0), (.slice none 0 0), (.slice none 0 0)]) h) fun v24 h =>
kH (stD (some 3) v24 v23 h) fun _ h =>
∃ (Inv25 : Nat → List V → AHeap → Prop) (n25 : Nat), Inv25 n25 [(.int .i64 0)] h ∧ ∀ (n25 : Nat) (e25 : Nat → V) (h : AHeap), Inv25 n25 [(e25 9)] h →
kv (lenD .slice a1 h) fun v26 =>
kv (binD .bad .lss false (e25 9) v26 h) fun v27 =>
ifV v27 (
kv (fieldAddrD (some 1) v24) fun v28 =>
kv (ldD .one v28 h) fun v29 =>
kv (indexAddrD (.slice 5) a1 (e25 9)) fun v30 =>
kv (fieldAddrD (some 0) v30) fun v31 =>
kv (ldD .one v31 h) fun v32 =>
kv (indexAddrD (.slice 5) a1 (e25 9)) fun v33 =>
kv (fieldAddrD (some 4) v33) fun v34 =>
kv (ldD .one v34 h) fun v35 =>
kP (buildSliceD (some (1, [(.int .i64 0)])) 2 [(0, v32), (1, v35)] h) fun v36 h =>
ldD .one v28 h = some v29 ∧
kP (appendD (some (1, 8, [(.int .i64 0)])) v29 v36 h) fun v37 h =>
kv (fieldAddrD (some 1) v24) fun v38 =>
kH (stD (some 1) v38 v37 h) fun _ h =>
kv (fieldAddrD (some 2) v24) fun v39 =>
kv (ldD .one v39 h) fun v40 =>
kv (indexAddrD (.slice 5) a1 (e25 9)) fun v41 =>
kv (fieldAddrD (some 1) v41) fun v42 =>
kv (ldD .one v42 h) fun v43 =>
kv (indexAddrD (.slice 5) a1 (e25 9)) fun v44 =>
kv (fieldAddrD (some 2) v44) fun v45 =>
kv (ldD .one v45 h) fun v46 =>
kv (indexAddrD (.slice 5) a1 (e25 9)) fun v47 =>
kv (fieldAddrD (some 3) v47) fun v48 =>
kv (ldD .one v48 h) fun v49 =>
kP (buildSliceD (some (1, [(.string ⟨#[]⟩)])) 3 [(0, v43), (1, v46), (2, v49)] h) fun v50 h =>
ldD .one v39 h = some v40 ∧
kP (appendD (some (1, 16, [(.string ⟨#[]⟩)])) v40 v50 h) fun v51 h =>
kv (fieldAddrD (some 2) v24) fun v52 =>
kH (stD (some 1) v52 v51 h) fun _ h =>
kv (binD .bad .add true (e25 9) (.int .i64 1) h) fun v53 =>
∃ m, m < n25 ∧ Inv25 m [v53] h) (
kv (ldD (.agg 3) v24 h) fun v54 =>
kH (stD (some 3) v1 v54 h) fun _ h =>
kv (ldD (.agg 3) v1 h) fun r55 =>
K (.tuple #[r55, (.bool true)]) h))
| _ => False
def F.estafettelaw15_begun (_ : FE) : Spec := fun args h K => args = [] ∧ K (.bool true) h
def F.estafettelaw12_Ops (E : FE) : Spec := fun args h K => match args with
| [a0] =>
kv (lenD .slice a0 h) fun v0 =>
kv (aMinMax false [v0, (.int .i64 10)]) fun v1 =>
kv (sliceD (.slice 5) a0 none (some v1) none h) fun v2 =>
kP (appendD (some (5, 64, [(.int .i64 0), (.string ⟨#[]⟩), (.string ⟨#[]⟩), (.string ⟨#[]⟩), (.int .i64 0)])) (.slice none 0 0) v2 h) fun v3 h =>
K v3 h
| _ => False
def F.estafetteref1_Add (E : FE) : Spec := fun args h K => match args with
| [a0, a1] =>
kv (binD .bad .rem true a0 (.int .u32 65536) h) fun v0 =>
kv (binD .bad .rem true v0 (.int .u32 65521) h) fun v1 =>
kv (binD .bad .quo true a0 (.int .u32 65536) h) fun v2 =>
kv (binD .bad .rem true v2 (.int .u32 65521) h) fun v3 =>
∃ (Inv4 : Nat → List V → AHeap → Prop) (n4 : Nat), Inv4 n4 [v1, v3, (.int .i64 0)] h ∧ ∀ (n4 : Nat) (e4 : Nat → V) (h : AHeap), Inv4 n4 [(e4 5), (e4 6), (e4 7)] h →
kv (lenD .slice a1 h) fun v5 =>
kv (binD .bad .lss false (e4 7) v5 h) fun v6 =>
ifV v6 (
kv (indexAddrD (.slice 1) a1 (e4 7)) fun v7 =>
kv (ldD .one v7 h) fun v8 =>
kv ((convD (.int .u32) v8 h).map (·.1)) fun v9 =>
kv (binD .bad .add false (e4 5) v9 h) fun v10 =>
kv (binD .bad .rem true v10 (.int .u32 65521) h) fun v11 =>
kv (binD .bad .add false (e4 6) v11 h) fun v12 =>
kv (binD .bad .rem true v12 (.int .u32 65521) h) fun v13 =>
kv (binD .bad .add true (e4 7) (.int .i64 1) h) fun v14 =>
∃ m, m < n4 ∧ Inv4 m [v11, v13, v14] h) (
kv (binD .bad .mul true (e4 6) (.int .u32 65536) h) fun v15 =>
kv (binD .bad .add false v15 (e4 5) h) fun v16 =>
K v16 h)
| _ => False
def F.estafetteref1_Mark (E : FE) : Spec := fun args h K => match args with
| [a0] =>
cl (F.estafetteref1_Add E) [(.int .u32 1), a0] h fun v0 h =>
K v0 h
| _ => False
def F.estafetteref1_Shard (E : FE) : Spec := fun args h K => match args with
| [a0, a1] =>
kv (binD .bad .lss true a1 (.int .i64 1) h) fun v0 =>
ifV v0 (
K (.int .i64 0) h) (
kP (convD .toBytes a0 h) fun v1 h =>
cl (F.estafetteref1_Mark E) [v1] h fun v2 h =>
kv ((convD (.int .i64) v2 h).map (·.1)) fun v3 =>
kv (binD .bad .rem false v3 a1 h) fun v4 =>
K v4 h)
| _ => False
def F.estafetteref12_Parts (E : FE) : Spec := fun args h K => match args with
| [a0, a1] =>
kv (binD .bad .lss true a1 (.int .i64 1) h) fun v0 =>
kv (gdV v0 false (some a1)) fun v1 =>
kv (gdV v0 false (binD .bad .gtr true v1 (.int .i64 3) h)) fun v2 =>
kv (pickV v0 (.bool true) v2) fun v3 =>
ifV v3 (
K (.slice none 0 0) h) (
kP (makeSliceD (some (1, 24, [(.slice none 0 0)])) a1 a1 h) fun v4 h =>
∃ (Inv5 : Nat → List V → AHeap → Prop) (n5 : Nat), Inv5 n5 [(.int .i64 0)] h ∧ ∀ (n5 : Nat) (e5 : Nat → V) (h : AHeap), Inv5 n5 [(e5 6)] h →
kv (lenD .slice a0 h) fun v6 =>
kv (binD .bad .lss false (e5 6) v6 h) fun v7 =>
ifV v7 (
kv (indexAddrD (.slice 5) a0 (e5 6)) fun v8 =>
kv (fieldAddrD (some 1) v8) fun v9 =>
kv (ldD .one v9 h) fun v10 =>
cl (F.estafetteref1_Shard E) [v10, a1] h fun v11 h =>
kv (indexAddrD (.slice 1) v4 v11) fun v12 =>
kv (ldD .one v12 h) fun v13 =>
kP (buildSliceD (some (1, [(.int .i64 0)])) 1 [(0, (e5 6))] h) fun v14 h =>
kP (appendD (some (1, 8, [(.int .i64 0)])) v13 v14 h) fun v15 h =>
kv (indexAddrD (.slice 1) v4 v11) fun v16 =>
kH (stD (some 1) v16 v15 h) fun _ h =>
kv (binD .bad .add true (e5 6) (.int .i64 1) h) fun v17 =>
∃ m, m < n5 ∧ Inv5 m [v17] h) (
K v4 h))
| _ => False
def F.estafetteref12_in (E : FE) : Spec := fun args h K => match args with
| [a0, a1, a2] =>
kv (binD .bad .geq false a0 a1 h) fun v0 =>
kv (gdV v0 true (some a0)) fun v1 =>
kv (gdV v0 true (some a2)) fun v2 =>
kv (gdV v0 true (binD .bad .leq false v1 v2 h)) fun v3 =>
kv (pickV v0 v3 (.bool false)) fun v4 =>
K v4 h
| _ => False
def F.estafetteref12_Get (E : FE) : Spec := fun args h K => match args with
| [a0] =>
kP (newD none a0 h) fun v0 h =>
kP (newD none (.agg #[(.int .i64 0), (.int .i64 0)]) h) fun v1 h =>
kv (fieldAddrD (some 2) v0) fun v2 =>
kv (ldD .one v2 h) fun v3 =>
kv (lenD .slice v3 h) fun v4 =>
kv (binD .bad .quo true v4 (.int .i64 3) h) fun v5 =>
kv (fieldAddrD (some 1) v0) fun v6 =>
kv (ldD .one v6 h) fun v7 =>
kv (lenD .slice v7 h) fun v8 =>
kv (binD .bad .mul true (.int .i64 2) v5 h) fun v9 =>
kv (binD .bad .add true (.int .i64 2) v9 h) fun v10 =>
kv (binD .bad .neq false v8 v10 h) fun v11 =>
kv (gdV v11 false (fieldAddrD (some 2) v0)) fun v12 =>
kv (gdV v11 false (ldD .one v12 h)) fun v13 =>
kv (gdV v11 false (lenD .slice v13 h)) fun v14 =>
kv (gdV v11 false (some v5)) fun v15 =>
kv (gdV v11 false (binD .bad .mul true (.int .i64 3) v15 h)) fun v16 =>
kv (gdV v11 false (binD .bad .neq false v14 v16 h)) fun v17 =>
kv (pickV v11 (.bool true) v17) fun v18 =>
kv (gdV v18 false (fieldAddrD (some 1) v0)) fun v19 =>
kv (gdV v18 false (ldD .one v19 h)) fun v20 =>
kv (gdV v18 false (indexAddrD (.slice 1) v20 (.int .i64 0))) fun v21 =>
kv (gdV v18 false (ldD .one v21 h)) fun v22 =>
gdC v18 false h (fun K23 => cl (F.estafetteref12_in E) [v22, (.int .i64 0), (.int .i64 8)] h fun v h => K23 v h) fun v24 h =>
kv (gdV v18 false (aUn .not v24)) fun v25 =>
kv (pickV v18 (.bool true) v25) fun v26 =>
ifV v26 (
kv (buildD (.struct [(.int .i64 0), (.int .i64 0)] [(0, 1), (1, 1)]) []) fun v27 =>
kH (stD (some 2) v1 v27 h) fun _ h =>
kv (ldD (.agg 2) v1 h) fun r28 =>
K (.tuple #[r28, (.slice none 0 0), (.bool false)]) h) (
kv (fieldAddrD (some 1) v0) fun v29 =>
kv (ldD .one v29 h) fun v30 =>
kv (indexAddrD (.slice 1) v30 (.int .i64 0)) fun v31 =>
kv (ldD .one v31 h) fun v32 =>
kv (fieldAddrD (some 1) v0) fun v33 =>
kv (ldD .one v33 h) fun v34 =>
kv (indexAddrD (.slice 1) v34 (.int .i64 1)) fun v35 =>
kv (ldD .one v35 h) fun v36 =>
kv (buildD (.struct [(.int .i64 0), (.int .i64 0)] [(0, 1), (1, 1)]) [(0, v32), (1, v36)]) fun v37 =>
kP (newD none (.agg #[(.int .i64 0), (.int .i64 0)]) h) fun v38 h =>
ldD .one v29 h = some v30 ∧
ldD .one v31 h = some v32 ∧
ldD .one v33 h = some v34 ∧
ldD .one v35 h = some v36 ∧
kH (stD (some 2) v38 v37 h) fun _ h =>
∃ (Inv39 : Nat → List V → AHeap → Prop) (n39 : Nat), Inv39 n39 [(.slice none 0 0), (.int .i64 0)] h ∧ ∀ (n39 : Nat) (e39 : Nat → V) (h : AHeap), Inv39 n39 [(e39 7), (e39 8)] h →
kv (binD .bad .lss false (e39 8) v5 h) fun v40 =>
ifV v40 (
kv (fieldAddrD (some 1) v0) fun v41 =>
kv (ldD .one v41 h) fun v42 =>
kv (binD .bad .mul true (.int .i64 2) (e39 8) h) fun v43 =>
kv (binD .bad .add true (.int .i64 2) v43 h) fun v44 =>
kv (indexAddrD (.slice 1) v42 v44) fun v45 =>
kv (ldD .one v45 h) fun v46 =>
cl (F.estafetteref12_in E) [v46, (.int .i64 1), (.int .i64 12)] h fun v47 h =>
kv (aUn .not v47) fun v48 =>
ifV v48 (
kv (buildD (.struct [(.int .i64 0), (.int .i64 0)] [(0, 1), (1, 1)]) []) fun v49 =>
kH (stD (some 2) v1 v49 h) fun _ h =>
kv (ldD (.agg 2) v1 h) fun r50 =>
K (.tuple #[r50, (.slice none 0 0), (.bool false)]) h) (
kv (fieldAddrD (some 1) v0) fun v51 =>
kv (ldD .one v51 h) fun v52 =>
kv (binD .bad .mul true (.int .i64 2) (e39 8) h) fun v53 =>
kv (binD .bad .add true (.int .i64 2) v53 h) fun v54 =>
kv (indexAddrD (.slice 1) v52 v54) fun v55 =>
kv (ldD .one v55 h) fun v56 =>
kv (fieldAddrD (some 1) v0) fun v57 =>
kv (ldD .one v57 h) fun v58 =>
kv (binD .bad .mul true (.int .i64 2) (e39 8) h) fun v59 =>
kv (binD .bad .add true (.int .i64 3) v59 h) fun v60 =>
kv (indexAddrD (.slice 1) v58 v60) fun v61 =>
kv (ldD .one v61 h) fun v62 =>
kv (fieldAddrD (some 2) v0) fun v63 =>
kv (ldD .one v63 h) fun v64 =>
kv (binD .bad .mul true (.int .i64 3) (e39 8) h) fun v65 =>
kv (indexAddrD (.slice 1) v64 v65) fun v66 =>
kv (ldD .one v66 h) fun v67 =>
kv (fieldAddrD (some 2) v0) fun v68 =>
kv (ldD .one v68 h) fun v69 =>
kv (binD .bad .mul true (.int .i64 3) (e39 8) h) fun v70 =>
kv (binD .bad .add true v70 (.int .i64 1) h) fun v71 =>
kv (indexAddrD (.slice 1) v69 v71) fun v72 =>
kv (ldD .one v72 h) fun v73 =>
kv (fieldAddrD (some 2) v0) fun v74 =>
kv (ldD .one v74 h) fun v75 =>
kv (binD .bad .mul true (.int .i64 3) (e39 8) h) fun v76 =>
kv (binD .bad .add true v76 (.int .i64 2) h) fun v77 =>
kv (indexAddrD (.slice 1) v75 v77) fun v78 =>
kv (ldD .one v78 h) fun v79 =>
kv (buildD (.struct [(.int .i64 0), (.string ⟨#[]⟩), (.string ⟨#[]⟩), (.string ⟨#[]⟩), (.int .i64 0)] [(0, 1), (1, 1), (2, 1), (3, 1), (4, 1)]) [(0, v56), (4, v62), (1, v67), (2, v73), (3, v79)]) fun v80 =>
kP (buildSliceD (some (5, [(.int .i64 0), (.string ⟨#[]⟩), (.string ⟨#[]⟩), (.string ⟨#[]⟩), (.int .i64 0)])) 1 [(0, v80)] h) fun v81 h =>
kP (appendD (some (5, 64, [(.int .i64 0), (.string ⟨#[]⟩), (.string ⟨#[]⟩), (.string ⟨#[]⟩), (.int .i64 0)])) (e39 7) v81 h) fun v82 h =>
kv (binD .bad .add true (e39 8) (.int .i64 1) h) fun v83 =>
∃ m, m < n39 ∧ Inv39 m [v82, v83] h)) (
kv (ldD (.agg 2) v38 h) fun v84 =>
kv (fieldAddrD (some 0) v0) fun v85 =>
kv (ldD .one v85 h) fun v86 =>
cl (F.estafetteref12_Put E) [v84, (e39 7), v86] h fun v87 h =>
kv (aExtract v87 0) fun v88 =>
kv (aExtract v87 1) fun v89 =>
kP (newD none (.agg #[(.int .i64 0), (.slice none 0 0), (.slice none 0 0)]) h) fun v90 h =>
kH (stD (some 3) v90 v88 h) fun _ h =>
kv (aUn .not v89) fun v91 =>
ifV v91 (
kv (buildD (.struct [(.int .i64 0), (.int .i64 0)] [(0, 1), (1, 1)]) []) fun v92 =>
kH (stD (some 2) v1 v92 h) fun _ h =>
kv (ldD (.agg 2) v1 h) fun r93 =>
K (.tuple #[r93, (.slice none 0 0), (.bool false)]) h) (
kv (ldD (.agg 2) v38 h) fun v94 =>
kH (stD (some 2) v1 v94 h) fun _ h =>
kv (ldD (.agg 2) v1 h) fun r95 =>
K (.tuple #[r95, (e39 7), (.bool true)]) h)))
| _ => False
def F.estafetteref12_Of (E : FE) : Spec := fun args h K => match args with
| [a0, a1, a2] =>
cl (F.estafetteref12_Parts E) [a0, a2] h fun v0 h =>
∃ (Inv1 : Nat → List V → AHeap → Prop) (n1 : Nat), Inv1 n1 [(.slice none 0 0), (.int .i64 0)] h ∧ ∀ (n1 : Nat) (e1 : Nat → V) (h : AHeap), Inv1 n1 [(e1 7), (e1 9)] h →
kv (binD .bad .geq true a1 (.int .i64 0) h) fun v2 =>
kv (gdV v2 true (some a1)) fun v3 =>
kv (gdV v2 true (some v0)) fun v4 =>
kv (gdV v2 true (lenD .slice v4 h)) fun v5 =>
kv (gdV v2 true (binD .bad .lss false v3 v5 h)) fun v6 =>
kv (pickV v2 v6 (.bool false)) fun v7 =>
kv (gdV v7 true (some (e1 9))) fun v8 =>
kv (gdV v7 true (some v0)) fun v9 =>
kv (gdV v7 true (some a1)) fun v10 =>
kv (gdV v7 true (indexAddrD (.slice 1) v9 v10)) fun v11 =>
kv (gdV v7 true (ldD .one v11 h)) fun v12 =>
kv (gdV v7 true (lenD .slice v12 h)) fun v13 =>
kv (gdV v7 true (binD .bad .lss false v8 v13 h)) fun v14 =>
kv (pickV v7 v14 (.bool false)) fun v15 =>
ifV v15 (
kv (indexAddrD (.slice 1) v0 a1) fun v16 =>
kv (ldD .one v16 h) fun v17 =>
kv (indexAddrD (.slice 1) v17 (e1 9)) fun v18 =>
kv (ldD .one v18 h) fun v19 =>
kv (indexAddrD (.slice 5) a0 v19) fun v20 =>
kv (ldD (.agg 5) v20 h) fun v21 =>
kP (buildSliceD (some (5, [(.int .i64 0), (.string ⟨#[]⟩), (.string ⟨#[]⟩), (.string ⟨#[]⟩), (.int .i64 0)])) 1 [(0, v21)] h) fun v22 h =>
kP (appendD (some (5, 64, [(.int .i64 0), (.string ⟨#[]⟩), (.string ⟨#[]⟩), (.string ⟨#[]⟩), (.int .i64 0)])) (e1 7) v22 h) fun v23 h =>
kv (binD .bad .add true (e1 9) (.int .i64 1) h) fun v24 =>
∃ m, m < n1 ∧ Inv1 m [v23, v24] h) (
K (e1 7) h)
| _ => False
def F.estafettelaw12_Eq (E : FE) : Spec := fun args h K => match args with
| [a0, a1] =>
kv (lenD .slice a0 h) fun v0 =>
kv (lenD .slice a1 h) fun v1 =>
kv (binD .bad .neq false v0 v1 h) fun v2 =>
ifV v2 (
K (.bool false) h) (
∃ (Inv3 : Nat → List V → AHeap → Prop) (n3 : Nat), Inv3 n3 [(.int .i64 0)] h ∧ ∀ (n3 : Nat) (e3 : Nat → V) (h : AHeap), Inv3 n3 [(e3 5)] h →
kv (lenD .slice a0 h) fun v4 =>
kv (binD .bad .lss false (e3 5) v4 h) fun v5 =>
ifV v5 (
kv (indexAddrD (.slice 5) a0 (e3 5)) fun v6 =>
kv (ldD (.agg 5) v6 h) fun v7 =>
kv (indexAddrD (.slice 5) a1 (e3 5)) fun v8 =>
kv (ldD (.agg 5) v8 h) fun v9 =>
kv (binD (.struct [(0, .int), (1, .string), (2, .string), (3, .string), (4, .int)]) .neq false v7 v9 h) fun v10 =>
ifV v10 (
K (.bool false) h) (
kv (binD .bad .add true (e3 5) (.int .i64 1) h) fun v11 =>
∃ m, m < n3 ∧ Inv3 m [v11] h)) (
K (.bool true) h))
| _ => False
def F.estafetteref12_flag (E : FE) : Spec := fun args h K => match args with
| [a0] =>
ifV a0 (
K (.int .i64 1) h) (
K (.int .i64 0) h)
| _ => False
def F.estafetteref12_Word (E : FE) : Spec := fun args h K => match args with
| [a0, a1, a2, a3] =>
kP (newD none a1 h) fun v0 h =>
kP (newD none (.agg #[(.int .i64 0), (.slice none 0 0), (.slice none 0 0)]) h) fun v1 h =>
kv (binD .bad .neq true a0 (.int .i64 6) h) fun v2 =>
kv (gdV v2 true (some a0)) fun v3 =>
kv (gdV v2 true (binD .bad .neq true v3 (.int .i64 7) h)) fun v4 =>
kv (pickV v2 v4 (.bool false)) fun v5 =>
kv (gdV v5 false (ldD (.agg 2) v0 h)) fun v6 =>
gdC v5 false h (fun K7 => cl (F.estafetteref12_Client E) [v6] h fun v h => K7 v h) fun v8 h =>
kv (gdV v5 false (aUn .not v8)) fun v9 =>
kv (pickV v5 (.bool true) v9) fun v10 =>
kv (gdV v10 false (some a2)) fun v11 =>
gdC v10 false h (fun K12 => cl (F.estafetteref12_in E) [v11, (.int .i64 0), (.int .i64 2)] h fun v h => K12 v h) fun v13 h =>
kv (gdV v10 false (aUn .not v13)) fun v14 =>
kv (pickV v10 (.bool true) v14) fun v15 =>
ifV v15 (
kv (buildD (.struct [(.int .i64 0), (.slice none 0 0), (.slice none 0 0)] [(0, 1), (1, 1), (2, 1)]) []) fun v16 =>
kH (stD (some 3) v1 v16 h) fun _ h =>
kv (ldD (.agg 3) v1 h) fun r17 =>
K (.tuple #[r17, (.bool false)]) h) (
kv (fieldAddrD (some 0) v0) fun v18 =>
kv (ldD .one v18 h) fun v19 =>
kv (fieldAddrD (some 1) v0) fun v20 =>
kv (ldD .one v20 h) fun v21 =>
cl (F.estafetteref12_flag E) [a3] h fun v22 h =>
ldD .one v18 h = some v19 ∧
ldD .one v20 h = some v21 ∧
kP (buildSliceD (some (1, [(.int .i64 0)])) 4 [(0, v19), (1, v21), (2, a2), (3, v22)] h) fun v23 h =>
kv (buildD (.struct [(.int .i64 0), (.slice none 0 0), (.slice none 0 0)] [(0, 1), (1, 1), (2, 1)]) [(0, a0), (1, v23)]) fun v24 =>
kH (stD (some 3) v1 v24 h) fun _ h =>
kv (ldD (.agg 3) v1 h) fun r25 =>
K (.tuple #[r25, (.bool true)]) h)
| _ => False
def F.estafetteref12_GetWord (E : FE) : Spec := fun args h K => match args with
| [a0] =>
kP (newD none a0 h) fun v0 h =>
kP (newD none (.agg #[(.int .i64 0), (.int .i64 0)]) h) fun v1 h =>
kv (fieldAddrD (some 1) v0) fun v2 =>
kv (ldD .one v2 h) fun v3 =>
kv (lenD .slice v3 h) fun v4 =>
kv (binD .bad .neq true v4 (.int .i64 4) h) fun v5 =>
kv (gdV v5 false (fieldAddrD (some 2) v0)) fun v6 =>
kv (gdV v5 false (ldD .one v6 h)) fun v7 =>
kv (gdV v5 false (lenD .slice v7 h)) fun v8 =>
kv (gdV v5 false (binD .bad .gtr true v8 (.int .i64 0) h)) fun v9 =>
kv (pickV v5 (.bool true) v9) fun v10 =>
kv (gdV v10 false (fieldAddrD (some 1) v0)) fun v11 =>
kv (gdV v10 false (ldD .one v11 h)) fun v12 =>
kv (gdV v10 false (indexAddrD (.slice 1) v12 (.int .i64 0))) fun v13 =>
kv (gdV v10 false (ldD .one v13 h)) fun v14 =>
gdC v10 false h (fun K15 => cl (F.estafetteref12_in E) [v14, (.int .i64 0), (.int .i64 8)] h fun v h => K15 v h) fun v16 h =>
kv (gdV v10 false (aUn .not v16)) fun v17 =>
kv (pickV v10 (.bool true) v17) fun v18 =>
kv (gdV v18 false (fieldAddrD (some 1) v0)) fun v19 =>
kv (gdV v18 false (ldD .one v19 h)) fun v20 =>
kv (gdV v18 false (indexAddrD (.slice 1) v20 (.int .i64 2))) fun v21 =>
kv (gdV v18 false (ldD .one v21 h)) fun v22 =>
gdC v18 false h (fun K23 => cl (F.estafetteref12_in E) [v22, (.int .i64 0), (.int .i64 9)] h fun v h => K23 v h) fun v24 h =>
kv (gdV v18 false (aUn .not v24)) fun v25 =>
kv (pickV v18 (.bool true) v25) fun v26 =>
kv (gdV v26 false (fieldAddrD (some 1) v0)) fun v27 =>
kv (gdV v26 false (ldD .one v27 h)) fun v28 =>
kv (gdV v26 false (indexAddrD (.slice 1) v28 (.int .i64 3))) fun v29 =>
kv (gdV v26 false (ldD .one v29 h)) fun v30 =>
gdC v26 false h (fun K31 => cl (F.estafetteref12_in E) [v30, (.int .i64 0), (.int .i64 1)] h fun v h => K31 v h) fun v32 h =>
kv (gdV v26 false (aUn .not v32)) fun v33 =>
kv (pickV v26 (.bool true) v33) fun v34 =>
ifV v34 (
kv (buildD (.struct [(.int .i64 0), (.int .i64 0)] [(0, 1), (1, 1)]) []) fun v35 =>
kH (stD (some 2) v1 v35 h) fun _ h =>
kv (ldD (.agg 2) v1 h) fun r36 =>
K (.tuple #[r36, (.int .i64 0), (.bool false), (.bool false)]) h) (
kv (fieldAddrD (some 1) v0) fun v37 =>
kv (ldD .one v37 h) fun v38 =>
kv (indexAddrD (.slice 1) v38 (.int .i64 0)) fun v39 =>
kv (ldD .one v39 h) fun v40 =>
kv (fieldAddrD (some 1) v0) fun v41 =>
kv (ldD .one v41 h) fun v42 =>
kv (indexAddrD (.slice 1) v42 (.int .i64 1)) fun v43 =>
kv (ldD .one v43 h) fun v44 =>
kv (buildD (.struct [(.int .i64 0), (.int .i64 0)] [(0, 1), (1, 1)]) [(0, v40), (1, v44)]) fun v45 =>
kP (newD none (.agg #[(.int .i64 0), (.int .i64 0)]) h) fun v46 h =>
ldD .one v37 h = some v38 ∧
ldD .one v39 h = some v40 ∧
ldD .one v41 h = some v42 ∧
ldD .one v43 h = some v44 ∧
kH (stD (some 2) v46 v45 h) fun _ h =>
kv (fieldAddrD (some 0) v0) fun v47 =>
kv (ldD .one v47 h) fun v48 =>
kv (ldD (.agg 2) v46 h) fun v49 =>
kv (fieldAddrD (some 1) v0) fun v50 =>
kv (ldD .one v50 h) fun v51 =>
kv (indexAddrD (.slice 1) v51 (.int .i64 2)) fun v52 =>
kv (ldD .one v52 h) fun v53 =>
(cl (F.estafetteref12_Word E) [v48, v49, v53, (.bool false)] h fun v54 h =>
kv (aExtract v54 0) fun v55 =>
kv (aExtract v54 1) fun v56 =>
kP (newD none (.agg #[(.int .i64 0), (.slice none 0 0), (.slice none 0 0)]) h) fun v57 h =>
ldD .one v47 h = some v48 ∧
ldD (.agg 2) v46 h = some v49 ∧
ldD .one v50 h = some v51 ∧
ldD .one v52 h = some v53 ∧
kH (stD (some 3) v57 v55 h) fun _ h =>
kv (aUn .not v56) fun v58 =>
ifV v58 (
kv (buildD (.struct [(.int .i64 0), (.int .i64 0)] [(0, 1), (1, 1)]) []) fun v59 =>
kH (stD (some 2) v1 v59 h) fun _ h =>
kv (ldD (.agg 2) v1 h) fun r60 =>
K (.tuple #[r60, (.int .i64 0), (.bool false), (.bool false)]) h) (
kv (ldD (.agg 2) v46 h) fun v61 =>
kv (fieldAddrD (some 1) v0) fun v62 =>
kv (ldD .one v62 h) fun v63 =>
kv (indexAddrD (.slice 1) v63 (.int .i64 2)) fun v64 =>
kv (ldD .one v64 h) fun v65 =>
kv (fieldAddrD (some 1) v0) fun v66 =>
kv (ldD .one v66 h) fun v67 =>
kv (indexAddrD (.slice 1) v67 (.int .i64 3)) fun v68 =>
kv (ldD .one v68 h) fun v69 =>
kv (binD .bad .eql true v69 (.int .i64 1) h) fun v70 =>
kH (stD (some 2) v1 v61 h) fun _ h =>
ldD .one v62 h = some v63 ∧
ldD .one v64 h = some v65 ∧
ldD .one v66 h = some v67 ∧
ldD .one v68 h = some v69 ∧
kv (ldD (.agg 2) v1 h) fun r71 =>
K (.tuple #[r71, v65, v70, (.bool true)]) h)) ∧
(kP (newD none (.agg #[(.int .i64 0), (.slice none 0 0), (.slice none 0 0)]) h) fun v72 h =>
ldD .one v47 h = some v48 ∧
ldD (.agg 2) v46 h = some v49 ∧
ldD .one v50 h = some v51 ∧
ldD .one v52 h = some v53 ∧
cl (F.estafetteref12_Word E) [v48, v49, v53, (.bool false)] h fun v73 h =>
kv (aExtract v73 0) fun v74 =>
kv (aExtract v73 1) fun v75 =>
kH (stD (some 3) v72 v74 h) fun _ h =>
kv (aUn .not v75) fun v76 =>
ifV v76 (
kv (buildD (.struct [(.int .i64 0), (.int .i64 0)] [(0, 1), (1, 1)]) []) fun v77 =>
kH (stD (some 2) v1 v77 h) fun _ h =>
kv (ldD (.agg 2) v1 h) fun r78 =>
K (.tuple #[r78, (.int .i64 0), (.bool false), (.bool false)]) h) (
kv (ldD (.agg 2) v46 h) fun v79 =>
kv (fieldAddrD (some 1) v0) fun v80 =>
kv (ldD .one v80 h) fun v81 =>
kv (indexAddrD (.slice 1) v81 (.int .i64 2)) fun v82 =>
kv (ldD .one v82 h) fun v83 =>
kv (fieldAddrD (some 1) v0) fun v84 =>
kv (ldD .one v84 h) fun v85 =>
kv (indexAddrD (.slice 1) v85 (.int .i64 3)) fun v86 =>
kv (ldD .one v86 h) fun v87 =>
kv (binD .bad .eql true v87 (.int .i64 1) h) fun v88 =>
kH (stD (some 2) v1 v79 h) fun _ h =>
ldD .one v80 h = some v81 ∧
ldD .one v82 h = some v83 ∧
ldD .one v84 h = some v85 ∧
ldD .one v86 h = some v87 ∧
kv (ldD (.agg 2) v1 h) fun r89 =>
K (.tuple #[r89, v83, v88, (.bool true)]) h)))
| _ => False
end Go.Abs

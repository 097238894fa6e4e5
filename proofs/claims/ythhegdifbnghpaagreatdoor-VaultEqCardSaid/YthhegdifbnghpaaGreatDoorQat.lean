/- Shallow forms of functions, printed by tools/gen.lean. -/
import Derived.Test.YthhegdifbnghpaaGreatDoorQap
import Derived.Test.YthhegdifbnghpaaGreatDoorQas
import Derived.Test.YthhegdifbnghpaaGreatDoorQao
set_option maxRecDepth 20000
set_option linter.unusedVariables false
set_option linter.unusedSimpArgs false
namespace Go.Abs
open Go
def F.yA (E:FE):Spec:=fun args h K=>match args with
| [a0]=>
kv (aC .bad .lss true a0 (.int .i64 1) h) fun v0=>
kv (gdV v0 false (some a0)) fun v1=>
kv (gdV v0 false (aC .bad .gtr true v1 (.int .i64 3) h)) fun v2=>
kv (bC v0 (.bool true) v2) fun v3=>
ifV v3 (
K (.pointer none) h) (
kP (fO true none h) fun v4 h=>
kP (fO true none h) fun v5 h=>
kP (fO true none h) fun v6 h=>
kv (cA (.struct [(.int .i64 0),(.map none),(.map none),(.map none)] [(0,1),(1,1),(2,1),(3,1)]) [(0,a0),(1,v4),(2,v5),(3,v6)]) fun v7=>
kP (aY none v7 h) fun v8 h=>
K v8 h)
| _=>False
def F.nJ (E:FE):Spec:=fun args h K=>match args with
| [a0,a1]=>
kv (bH .slice a0 h) fun v0=>
∃(Inv1:Nat→List V→aA→Prop) (n1:Nat),Inv1 n1 [(.int .i64 0)] h∧∀(n1:Nat) (e1:Nat→V) (h:aA),Inv1 n1 [(e1 8)] h →
kv (aC .bad .lss false (e1 8) v0 h) fun v2=>
ifV v2 (
kv (aV (.slice 5) a0 (e1 8)) fun v3=>
kv (ldD (.agg 5) v3 h) fun v4=>
cR E.I a1 [v4] h fun v5 h=>
ifV v5 (
K (e1 8) h) (
kv (aC .bad .add true (e1 8) (.int .i64 1) h) fun v6=>
∃m,m<n1∧Inv1 m [v6] h)) (
K (.int .i64 (-1)) h)
| _=>False
def F.nF (E:FE):Spec:=fun args h K=>match args with
| [a0,a1]=>
cl (F.nJ E) [a0,a1] h fun v0 h=>
kv (aC .bad .geq true v0 (.int .i64 0) h) fun v1=>
K v1 h
| _=>False
def F.jW (E:FE):Spec:=fun args h K=>match args with
| [a0]=>
kv (aC .bad .eql true a0 (.int .i64 1) h) fun v0=>
∃K1:List V→aA→Prop,(
ifV v0 (
K1 [v0] h) (
kv (aC .bad .eql true a0 (.int .i64 8) h) fun v2=>
ifV v2 (
K1 [v2] h) (
kv (aC .bad .eql true a0 (.int .i64 11) h) fun v3=>
K1 [v3] h)))∧∀(e1:Nat→V) (h:aA),K1 [(e1 6)] h →
ifV (e1 6) (
K (.tuple #[(.bool true),(.bool false),(.bool true)]) h) (
kv (aC .bad .eql true a0 (.int .i64 3) h) fun v4=>
∃K5:List V→aA→Prop,(
ifV v4 (
K5 [v4] h) (
kv (aC .bad .eql true a0 (.int .i64 5) h) fun v6=>
K5 [v6] h))∧∀(e5:Nat→V) (h:aA),K5 [(e5 10)] h →
ifV (e5 10) (
K (.tuple #[(.bool true),(.bool false),(.bool false)]) h) (
kv (aC .bad .eql true a0 (.int .i64 4) h) fun v7=>
ifV v7 (
K (.tuple #[(.bool true),(.bool true),(.bool false)]) h) (
kv (aC .bad .eql true a0 (.int .i64 6) h) fun v8=>
∃K9:List V→aA→Prop,(
ifV v8 (
K9 [v8] h) (
kv (aC .bad .eql true a0 (.int .i64 10) h) fun v10=>
K9 [v10] h))∧∀(e9:Nat→V) (h:aA),K9 [(e9 15)] h →
ifV (e9 15) (
K (.tuple #[(.bool false),(.bool true),(.bool false)]) h) (
kv (aC .bad .eql true a0 (.int .i64 7) h) fun v11=>
ifV v11 (
K (.tuple #[(.bool false),(.bool false),(.bool true)]) h) (
kv (aC .bad .eql true a0 (.int .i64 12) h) fun v12=>
ifV v12 (
K (.tuple #[(.bool true),(.bool true),(.bool true)]) h) (
K (.tuple #[(.bool false),(.bool false),(.bool false)]) h))))))
| _=>False
def F.nU (E:FE):Spec:=fun args h K=>match args with
| [a0,a1,a2]=>
kP (gS .str a0 h) fun v0 h=>
∃(Inv1:Nat→List V→aA→Prop) (n1:Nat),Inv1 n1 [] h∧∀(n1:Nat) (e1:Nat→V) (h:aA),Inv1 n1 [] h →
dS v0 true h fun v2 h=>
kv (bJ v2 0) fun v3=>
ifV v3 (
kv (bJ v2 1) fun v4=>
kv (bJ v2 2) fun v5=>
cR E.I a1 [v5] h fun v6 h=>
kv (aC .bool .eql false v6 a2 h) fun v7=>
ifV v7 (
K v4 h) (
∃m,m<n1∧Inv1 m [] h)) (
K (.int .i64 (-1)) h)
| _=>False
def F.nT (E:FE):Spec:=fun args h K=>match args with
| [a0,a1]=>
cl (F.nU E) [a0,a1,(.bool true)] h fun v0 h=>
K v0 h
| _=>False
def F.nS (E:FE):Spec:=fun args h K=>match args with
| [a0,a1]=>
cl (F.nT E) [a0,a1] h fun v0 h=>
kv (aC .bad .geq true v0 (.int .i64 0) h) fun v1=>
K v1 h
| _=>False
def F.jV (E:FE):Spec:=fun args h K=>match args with
| [a0]=>
kP (aY none a0 h) fun v0 h=>
kv (aF (some 4) v0) fun v1=>
kv (ldD .one v1 h) fun v2=>
kv (aC .bad .lss true v2 (.int .i64 1) h) fun v3=>
kv (gdV v3 false (aF (some 4) v0)) fun v4=>
kv (gdV v3 false (ldD .one v4 h)) fun v5=>
kv (gdV v3 false (aC .bad .gtr true v5 (.int .i64 3) h)) fun v6=>
kv (bC v3 (.bool true) v6) fun v7=>
ifV v7 (
K (.bool false) h) (
kv (aF (some 2) v0) fun v8=>
kv (ldD .one v8 h) fun v9=>
kv (bH .str v9 h) fun v10=>
kv (aC .bad .eql true v10 (.int .i64 1) h) fun v11=>
kv (gdV v11 true (aF (some 2) v0)) fun v12=>
kv (gdV v11 true (ldD .one v12 h)) fun v13=>
kv (gdV v11 true (iQ .str v13 (.int .i64 0))) fun v14=>
kv (gdV v11 true (aC .bad .geq true v14 (.int .u8 49) h)) fun v15=>
kv (bC v11 v15 (.bool false)) fun v16=>
kv (gdV v16 true (aF (some 2) v0)) fun v17=>
kv (gdV v16 true (ldD .one v17 h)) fun v18=>
kv (gdV v16 true (iQ .str v18 (.int .i64 0))) fun v19=>
kv (gdV v16 true (aC .bad .leq true v19 (.int .u8 57) h)) fun v20=>
kv (bC v16 v20 (.bool false)) fun v21=>
kv (gdV v21 false (aF (some 2) v0)) fun v22=>
kv (gdV v21 false (ldD .one v22 h)) fun v23=>
kv (gdV v21 false (aC .bad .eql true v23 (.string ⟨#[]⟩) h)) fun v24=>
kv (gdV v21 false (some v24)) fun v25=>
kv (gdV v25 true (aF (some 4) v0)) fun v26=>
kv (gdV v25 true (ldD .one v26 h)) fun v27=>
kv (gdV v25 true (aC .bad .neq true v27 (.int .i64 2) h)) fun v28=>
kv (gdV v21 false (bC v25 v28 (.bool false))) fun v29=>
kv (bC v21 (.bool true) v29) fun v30=>
K v30 h)
| _=>False
def F.eU (E:FE):Spec:=fun args h K=>match args with
| [a0]=>
kv (aC .bad .lss true a0 (.int .i32 97) h) fun v0=>
kv (gdV v0 false (some a0)) fun v1=>
kv (gdV v0 false (aC .bad .gtr true v1 (.int .i32 122) h)) fun v2=>
kv (bC v0 (.bool true) v2) fun v3=>
K v3 h
| _=>False
def F.jU (E:FE):Spec:=fun args h K=>match args with
| [a0]=>
kP (aY none a0 h) fun v0 h=>
kv (aF (some 0) v0) fun v1=>
kv (ldD .one v1 h) fun v2=>
cl (F.jW E) [v2] h fun v3 h=>
kv (bJ v3 0) fun v4=>
kv (bJ v3 1) fun v5=>
kv (bJ v3 2) fun v6=>
kv (aF (some 0) v0) fun v7=>
kv (ldD .one v7 h) fun v8=>
kv (aC .bad .lss true v8 (.int .i64 1) h) fun v9=>
kv (gdV v9 false (aF (some 0) v0)) fun v10=>
kv (gdV v9 false (ldD .one v10 h)) fun v11=>
kv (gdV v9 false (aC .bad .gtr true v11 (.int .i64 12) h)) fun v12=>
kv (bC v9 (.bool true) v12) fun v13=>
∃K14:List V→aA→Prop,(
ifV v13 (
K14 [v13] h) (
kv (aF (some 1) v0) fun v15=>
kv (ldD .one v15 h) fun v16=>
kv (aC .bad .eql true v16 (.string ⟨#[]⟩) h) fun v17=>
kv (gdV v17 false (aF (some 1) v0)) fun v18=>
kv (gdV v17 false (ldD .one v18 h)) fun v19=>
kv (gdV v17 false (bH .str v19 h)) fun v20=>
kv (gdV v17 false (aC .bad .gtr true v20 (.int .i64 20) h)) fun v21=>
kv (bC v17 (.bool true) v21) fun v22=>
kv (gdV v22 false (aF (some 1) v0)) fun v23=>
kv (gdV v22 false (ldD .one v23 h)) fun v24=>
kv (gdV v22 false (some (.func (.func (E.k 7)) #[] #[]))) fun v25=>
gdC v22 false h (fun K26=>cl (F.nS E) [v24,v25] h fun v h=>K26 v h) fun v27 h=>
kv (bC v22 (.bool true) v27) fun v28=>
K14 [v28] h))∧∀(e14:Nat→V) (h:aA),K14 [(e14 14)] h →
ifV (e14 14) (
K (.bool false) h) (
kv (aF (some 2) v0) fun v29=>
kv (ldD .one v29 h) fun v30=>
kv (bH .str v30 h) fun v31=>
kv (aC .bad .gtr true v31 (.int .i64 20) h) fun v32=>
kv (gdV v32 false (aF (some 3) v0)) fun v33=>
kv (gdV v32 false (ldD .one v33 h)) fun v34=>
kv (gdV v32 false (bH .str v34 h)) fun v35=>
kv (gdV v32 false (aC .bad .gtr true v35 (.int .i64 100) h)) fun v36=>
kv (bC v32 (.bool true) v36) fun v37=>
kv (gdV v37 false (aF (some 4) v0)) fun v38=>
kv (gdV v37 false (ldD .one v38 h)) fun v39=>
kv (gdV v37 false (aC .bad .lss true v39 (.int .i64 0) h)) fun v40=>
kv (bC v37 (.bool true) v40) fun v41=>
kv (gdV v41 false (aF (some 4) v0)) fun v42=>
kv (gdV v41 false (ldD .one v42 h)) fun v43=>
kv (gdV v41 false (aC .bad .gtr true v43 (.int .i64 1099511627776) h)) fun v44=>
kv (bC v41 (.bool true) v44) fun v45=>
∃K46:List V→aA→Prop,(
ifV v45 (
K46 [v45] h) (
kv (aUn .not v4) fun v47=>
kv (gdV v47 true (aF (some 2) v0)) fun v48=>
kv (gdV v47 true (ldD .one v48 h)) fun v49=>
kv (gdV v47 true (aC .bad .neq true v49 (.string ⟨#[]⟩) h)) fun v50=>
kv (bC v47 v50 (.bool false)) fun v51=>
ifV v51 (
K46 [v51] h) (
kv (aUn .not v5) fun v52=>
kv (gdV v52 true (aF (some 3) v0)) fun v53=>
kv (gdV v52 true (ldD .one v53 h)) fun v54=>
kv (gdV v52 true (aC .bad .neq true v54 (.string ⟨#[]⟩) h)) fun v55=>
kv (bC v52 v55 (.bool false)) fun v56=>
ifV v56 (
K46 [v56] h) (
kv (aUn .not v6) fun v57=>
kv (gdV v57 true (aF (some 4) v0)) fun v58=>
kv (gdV v57 true (ldD .one v58 h)) fun v59=>
kv (gdV v57 true (aC .bad .neq true v59 (.int .i64 0) h)) fun v60=>
kv (bC v57 v60 (.bool false)) fun v61=>
K46 [v61] h))))∧∀(e46:Nat→V) (h:aA),K46 [(e46 38)] h →
ifV (e46 38) (
K (.bool false) h) (
kv (aF (some 0) v0) fun v62=>
kv (ldD .one v62 h) fun v63=>
kv (aC .bad .neq true v63 (.int .i64 1) h) fun v64=>
kv (gdV v64 false (ldD (.agg 5) v0 h)) fun v65=>
gdC v64 false h (fun K66=>cl (F.jV E) [v65] h fun v h=>K66 v h) fun v67 h=>
kv (bC v64 (.bool true) v67) fun v68=>
K v68 h))
| _=>False
def F.oQ (E:FE):Spec:=fun args h K=>match args with
| [a0]=>
kP (aY none a0 h) fun v0 h=>
kv (ldD (.agg 5) v0 h) fun v1=>
cl (F.jU E) [v1] h fun v2 h=>
kv (aUn .not v2) fun v3=>
K v3 h
| _=>False
def F.jS (E:FE):Spec:=fun args h K=>match args with
| [a0]=>
kv (bH .slice a0 h) fun v0=>
kv (aC .bad .geq true v0 (.int .i64 1) h) fun v1=>
kv (gdV v1 true (some a0)) fun v2=>
kv (gdV v1 true (bH .slice v2 h)) fun v3=>
kv (gdV v1 true (aC .bad .leq true v3 (.int .i64 8) h)) fun v4=>
kv (bC v1 v4 (.bool false)) fun v5=>
kv (gdV v5 true (some a0)) fun v6=>
gdC v5 true h (fun K7=>cl (F.nF E) [v6,(.func (.func (E.k 6)) #[] #[])] h fun v h=>K7 v h) fun v8 h=>
kv (gdV v5 true (aUn .not v8)) fun v9=>
kv (bC v5 v9 (.bool false)) fun v10=>
K v10 h
| _=>False
def F.mZ (E:FE):Spec:=fun args h K=>match args with
| [a0]=>
kv (aC .slice .eql true a0 (.slice none 0 0) h) fun v0=>
ifV v0 (
K (.slice none 0 0) h) (
kP (dN (some (5,[(.int .i64 0),(.string ⟨#[]⟩),(.string ⟨#[]⟩),(.string ⟨#[]⟩),(.int .i64 0)])) 0 [] h) fun v1 h=>
kP (dU (some (5,64,[(.int .i64 0),(.string ⟨#[]⟩),(.string ⟨#[]⟩),(.string ⟨#[]⟩),(.int .i64 0)])) v1 a0 h) fun v2 h=>
K v2 h)
| _=>False
def F.mO (E:FE):Spec:=fun args h K=>match args with
| [a0]=>
kP (fO true none h) fun v0 h=>
kv (cA (.struct [(.map none)] [(0,1)]) [(0,v0)]) fun v1=>
kP (aY none v1 h) fun v2 h=>
kv (bH .slice a0 h) fun v3=>
∃(Inv4:Nat→List V→aA→Prop) (n4:Nat),Inv4 n4 [(.int .i64 0)] h∧∀(n4:Nat) (e4:Nat→V) (h:aA),Inv4 n4 [(e4 11)] h →
kv (aC .bad .lss false (e4 11) v3 h) fun v5=>
ifV v5 (
kv (aV (.slice 2) a0 (e4 11)) fun v6=>
kv (ldD (.agg 2) v6 h) fun v7=>
kP (aY none (.agg #[(.int .i64 0),(.int .i64 0)]) h) fun v8 h=>
kH (stD (some 2) v8 v7 h) fun _ h=>
kv (aM v2) fun v9=>
kv (aF (some 0) v9) fun v10=>
kv (ldD .one v10 h) fun v11=>
kv (ldD (.agg 2) v8 h) fun v12=>
kH (cU (some ((.struct false [(0,.int),(1,.int)]),(some (.bool false)))) v11 v12 (.bool true) h) fun _ h=>
kv (aC .bad .add true (e4 11) (.int .i64 1) h) fun v13=>
∃m,m<n4∧Inv4 m [v13] h) (
K v2 h)
| _=>False
def F.oL (E:FE):Spec:=fun args h K=>match args with
| [a0]=>
kP (aY none a0 h) fun v0 h=>
K (.func (.func (E.k 13)) #[] #[v0]) h
| _=>False
def F.pM (E:FE):Spec:=fun args h K=>match args with
| [a0]=>
kv (aC .bad .geq true a0 (.int .u32 65536) h) fun v0=>
∃K1:List V→aA→Prop,(
ifV v0 (
kv (aC .bad .shr true a0 (.int .u64 16) h) fun v2=>
K1 [v2,(.int .i64 16)] h) (
K1 [a0,(.int .i64 0)] h))∧∀(e1:Nat→V) (h:aA),K1 [(e1 0),(e1 2)] h →
kv (aC .bad .geq true (e1 0) (.int .u32 256) h) fun v3=>
∃K4:List V→aA→Prop,(
ifV v3 (
kv (aC .bad .shr true (e1 0) (.int .u64 8) h) fun v5=>
kv (aC .bad .add true (e1 2) (.int .i64 8) h) fun v6=>
K4 [v5,v6] h) (
K4 [(e1 0),(e1 2)] h))∧∀(e4:Nat→V) (h:aA),K4 [(e4 0),(e4 2)] h →
kv ((eQ (.int .u8) (e4 0) h).map (·.1)) fun v7=>
kv (iQ .str (.string ⟨#[0,1,2,2,3,3,3,3,4,4,4,4,4,4,4,4,5,5,5,5,5,5,5,5,5,5,5,5,5,5,5,5,6,6,6,6,6,6,6,6,6,6,6,6,6,6,6,6,6,6,6,6,6,6,6,6,6,6,6,6,6,6,6,6,7,7,7,7,7,7,7,7,7,7,7,7,7,7,7,7,7,7,7,7,7,7,7,7,7,7,7,7,7,7,7,7,7,7,7,7,7,7,7,7,7,7,7,7,7,7,7,7,7,7,7,7,7,7,7,7,7,7,7,7,7,7,7,7,8,8,8,8,8,8,8,8,8,8,8,8,8,8,8,8,8,8,8,8,8,8,8,8,8,8,8,8,8,8,8,8,8,8,8,8,8,8,8,8,8,8,8,8,8,8,8,8,8,8,8,8,8,8,8,8,8,8,8,8,8,8,8,8,8,8,8,8,8,8,8,8,8,8,8,8,8,8,8,8,8,8,8,8,8,8,8,8,8,8,8,8,8,8,8,8,8,8,8,8,8,8,8,8,8,8,8,8,8,8,8,8,8,8,8,8,8,8,8,8,8,8,8,8,8,8,8,8]⟩) v7) fun v8=>
kv ((eQ (.int .i64) v8 h).map (·.1)) fun v9=>
kv (aC .bad .add false (e4 2) v9 h) fun v10=>
K v10 h
| _=>False
def F.mK (E:FE):Spec:=fun args h K=>match args with
| [a0]=>
kv (aC .bad .geq true a0 (.int .u64 4294967296) h) fun v0=>
∃K1:List V→aA→Prop,(
ifV v0 (
kv (aC .bad .shr true a0 (.int .u64 32) h) fun v2=>
K1 [v2,(.int .i64 32)] h) (
K1 [a0,(.int .i64 0)] h))∧∀(e1:Nat→V) (h:aA),K1 [(e1 0),(e1 2)] h →
kv (aC .bad .geq true (e1 0) (.int .u64 65536) h) fun v3=>
∃K4:List V→aA→Prop,(
ifV v3 (
kv (aC .bad .shr true (e1 0) (.int .u64 16) h) fun v5=>
kv (aC .bad .add true (e1 2) (.int .i64 16) h) fun v6=>
K4 [v5,v6] h) (
K4 [(e1 0),(e1 2)] h))∧∀(e4:Nat→V) (h:aA),K4 [(e4 0),(e4 2)] h →
kv (aC .bad .geq true (e4 0) (.int .u64 256) h) fun v7=>
∃K8:List V→aA→Prop,(
ifV v7 (
kv (aC .bad .shr true (e4 0) (.int .u64 8) h) fun v9=>
kv (aC .bad .add true (e4 2) (.int .i64 8) h) fun v10=>
K8 [v9,v10] h) (
K8 [(e4 0),(e4 2)] h))∧∀(e8:Nat→V) (h:aA),K8 [(e8 0),(e8 2)] h →
kv ((eQ (.int .u8) (e8 0) h).map (·.1)) fun v11=>
kv (iQ .str (.string ⟨#[0,1,2,2,3,3,3,3,4,4,4,4,4,4,4,4,5,5,5,5,5,5,5,5,5,5,5,5,5,5,5,5,6,6,6,6,6,6,6,6,6,6,6,6,6,6,6,6,6,6,6,6,6,6,6,6,6,6,6,6,6,6,6,6,7,7,7,7,7,7,7,7,7,7,7,7,7,7,7,7,7,7,7,7,7,7,7,7,7,7,7,7,7,7,7,7,7,7,7,7,7,7,7,7,7,7,7,7,7,7,7,7,7,7,7,7,7,7,7,7,7,7,7,7,7,7,7,7,8,8,8,8,8,8,8,8,8,8,8,8,8,8,8,8,8,8,8,8,8,8,8,8,8,8,8,8,8,8,8,8,8,8,8,8,8,8,8,8,8,8,8,8,8,8,8,8,8,8,8,8,8,8,8,8,8,8,8,8,8,8,8,8,8,8,8,8,8,8,8,8,8,8,8,8,8,8,8,8,8,8,8,8,8,8,8,8,8,8,8,8,8,8,8,8,8,8,8,8,8,8,8,8,8,8,8,8,8,8,8,8,8,8,8,8,8,8,8,8,8,8,8,8,8,8,8,8]⟩) v11) fun v12=>
kv ((eQ (.int .i64) v12 h).map (·.1)) fun v13=>
kv (aC .bad .add false (e8 2) v13 h) fun v14=>
K v14 h
| _=>False
def F.mJ (E:FE):Spec:=fun args h K=>match args with
| [a0]=>
ifV (.bool false) (
kv ((eQ (.int .u32) a0 h).map (·.1)) fun v0=>
cl (F.pM E) [v0] h fun v1 h=>
K v1 h) (
cl (F.mK E) [a0] h fun v2 h=>
K v2 h)
| _=>False
def F.pQ (E:FE):Spec:=fun args h K=>match args with
| [a0,a1,a2,a3]=>
kv (aC .bad .add true a1 (.int .i64 1) h) fun v0=>
∃(Inv1:Nat→List V→aA→Prop) (n1:Nat),Inv1 n1 [v0] h∧∀(n1:Nat) (e1:Nat→V) (h:aA),Inv1 n1 [(e1 8)] h →
kv (aC .bad .lss false (e1 8) a2 h) fun v2=>
ifV v2 (
∃(Inv3:Nat→List V→aA→Prop) (n3:Nat),Inv3 n3 [(e1 8)] h∧∀(n3:Nat) (e3:Nat→V) (h:aA),Inv3 n3 [(e3 9)] h →
kv (aC .bad .gtr false (e3 9) a1 h) fun v4=>
kv (gdV v4 true (some a3)) fun v5=>
kv (gdV v4 true (some a0)) fun v6=>
kv (gdV v4 true (some (e3 9))) fun v7=>
kv (gdV v4 true (aV (.slice 2) v6 v7)) fun v8=>
kv (gdV v4 true (ldD (.agg 2) v8 h)) fun v9=>
kv (gdV v4 true (some a0)) fun v10=>
kv (gdV v4 true (some (e3 9))) fun v11=>
kv (gdV v4 true (aC .bad .sub true v11 (.int .i64 1) h)) fun v12=>
kv (gdV v4 true (aV (.slice 2) v10 v12)) fun v13=>
kv (gdV v4 true (ldD (.agg 2) v13 h)) fun v14=>
gdC v4 true h (fun K15=>cR E.I v5 [v9,v14] h fun v h=>K15 v h) fun v16 h=>
kv (gdV v4 true (aC .bad .lss true v16 (.int .i64 0) h)) fun v17=>
kv (bC v4 v17 (.bool false)) fun v18=>
ifV v18 (
kv (aC .bad .sub true (e3 9) (.int .i64 1) h) fun v19=>
kv (aC .bad .sub true (e3 9) (.int .i64 1) h) fun v20=>
kv (aV (.slice 2) a0 v20) fun v21=>
kv (ldD (.agg 2) v21 h) fun v22=>
kv (aV (.slice 2) a0 (e3 9)) fun v23=>
kv (ldD (.agg 2) v23 h) fun v24=>
kv (aV (.slice 2) a0 (e3 9)) fun v25=>
kH (stD (some 2) v25 v22 h) fun _ h=>
kv (aV (.slice 2) a0 v19) fun v26=>
kH (stD (some 2) v26 v24 h) fun _ h=>
kv (aC .bad .sub true (e3 9) (.int .i64 1) h) fun v27=>
∃m,m<n3∧Inv3 m [v27] h) (
kv (aC .bad .add true (e1 8) (.int .i64 1) h) fun v28=>
∃m,m<n1∧Inv1 m [v28] h)) (
K (.tuple #[]) h)
| _=>False
def Fr.qS:Nat→FE→Spec
| 0,_=>fun _ _ _=>False
| fuel+1,E=>fun args h K=>match args with
| [a0,a1,a2,a3,a4]=>
∃(Inv0:Nat→List V→aA→Prop) (n0:Nat),Inv0 n0 [a1,a2,a3,(.bool true),(.bool true)] h∧∀(n0:Nat) (e0:Nat→V) (h:aA),Inv0 n0 [(e0 1),(e0 2),(e0 3),(e0 10),(e0 11)] h →
kv (aC .bad .sub false (e0 2) (e0 1) h) fun v1=>
kv (aC .bad .leq true v1 (.int .i64 12) h) fun v2=>
ifV v2 (
cl (F.pQ E) [a0,(e0 1),(e0 2),a4] h fun v3 h=>
K (.tuple #[]) h) (
kv (aC .bad .eql true (e0 3) (.int .i64 0) h) fun v4=>
ifV v4 (
False) (
kv (aUn .not (e0 10)) fun v6=>
∃K7:List V→aA→Prop,(
ifV v6 (
False) (
K7 [(e0 3)] h))∧∀(e7:Nat→V) (h:aA),K7 [(e7 3)] h →
False))
| _=>False
def F.nO (E:FE):Spec:=L.aE6 (E.k 10)
def F.oV (E:FE):Spec:=fun args h K=>match args with
| [a0,a1]=>
cl (F.uK E) [a0] h fun v0 h=>
cl (F.nO E) [v0,a1] h fun v1 h=>
K v0 h
| _=>False
def F.cmp_isNaN_int (E:FE):Spec:=fun args h K=>match args with
| [a0]=>
kv (aC .bad .neq false a0 a0 h) fun v0=>
K v0 h
| _=>False
def F.iM (E:FE):Spec:=fun args h K=>match args with
| [a0,a1]=>
cl (F.cmp_isNaN_int E) [a0] h fun v0 h=>
cl (F.cmp_isNaN_int E) [a1] h fun v1 h=>
ifV v0 (
ifV v1 (
K (.int .i64 0) h) (
K (.int .i64 (-1)) h)) (
ifV v1 (
K (.int .i64 1) h) (
kv (aC .bad .lss false a0 a1 h) fun v2=>
ifV v2 (
K (.int .i64 (-1)) h) (
kv (aC .bad .gtr false a0 a1 h) fun v3=>
ifV v3 (
K (.int .i64 1) h) (
K (.int .i64 0) h))))
| _=>False
def F.gX (E:FE):Spec:=fun args h K=>match args with
| [a0]=>
kv (aC .bad .neq false a0 a0 h) fun v0=>
K v0 h
| _=>False
def F.iN (E:FE):Spec:=fun args h K=>match args with
| [a0,a1]=>
cl (F.gX E) [a0] h fun v0 h=>
cl (F.gX E) [a1] h fun v1 h=>
ifV v0 (
ifV v1 (
K (.int .i64 0) h) (
K (.int .i64 (-1)) h)) (
ifV v1 (
K (.int .i64 1) h) (
kv (aC .bad .lss false a0 a1 h) fun v2=>
ifV v2 (
K (.int .i64 (-1)) h) (
kv (aC .bad .gtr false a0 a1 h) fun v3=>
ifV v3 (
K (.int .i64 1) h) (
K (.int .i64 0) h))))
| _=>False
def F.fW (E:FE):Spec:=fun args h K=>match args with
| [a0]=>
kv (bH .slice a0 h) fun v0=>
∃(Inv1:Nat→List V→aA→Prop) (n1:Nat),Inv1 n1 [(.int .i64 0)] h∧∀(n1:Nat) (e1:Nat→V) (h:aA),Inv1 n1 [(e1 8)] h →
kv (aC .bad .lss false (e1 8) v0 h) fun v2=>
ifV v2 (
kv (aV (.slice 1) a0 (e1 8)) fun v3=>
kv (ldD .one v3 h) fun v4=>
kv (aC .bad .neq false v4 (.int .i64 0) h) fun v5=>
ifV v5 (
K v4 h) (
kv (aC .bad .add true (e1 8) (.int .i64 1) h) fun v6=>
∃m,m<n1∧Inv1 m [v6] h)) (
K (.int .i64 0) h)
| _=>False
def F.gQ (E:FE):Spec:=fun args h K=>match args with
| [a0,a1]=>
kP (aY none a0 h) fun v0 h=>
kP (aY none a1 h) fun v1 h=>
kv (aF (some 0) v0) fun v2=>
kv (ldD .one v2 h) fun v3=>
kv (aF (some 0) v1) fun v4=>
kv (ldD .one v4 h) fun v5=>
kv (aF (some 1) v0) fun v6=>
kv (ldD .one v6 h) fun v7=>
kv (aF (some 1) v1) fun v8=>
kv (ldD .one v8 h) fun v9=>
cl (F.iM E) [v3,v5] h fun v10 h=>
ldD .one v6 h=some v7 ∧
ldD .one v8 h=some v9 ∧
cl (F.iN E) [v7,v9] h fun v11 h=>
kP (dN (some (1,[(.int .i64 0)])) 2 [(0,v10),(1,v11)] h) fun v12 h=>
cl (F.fW E) [v12] h fun v13 h=>
K v13 h
| _=>False
def F.lE (E:FE):Spec:=fun args h K=>match args with
| [a0]=>
kv (aC (.ptr true) .eql true a0 (.pointer none) h) fun v0=>
ifV v0 (
K (.slice none 0 0) h) (
kv (aM a0) fun v1=>
kv (aF (some 0) v1) fun v2=>
kv (ldD .one v2 h) fun v3=>
cl (F.oL E) [v3] h fun v4 h=>
cl (F.oV E) [v4,(.func (.func (E.k 10)) #[] #[])] h fun v5 h=>
K v5 h)
| _=>False
def F.fC (E:FE):Spec:=fun args h K=>match args with
| [a0]=>
kv (aC .slice .eql true a0 (.slice none 0 0) h) fun v0=>
ifV v0 (
K (.slice none 0 0) h) (
kP (dN (some (1,[(.string ⟨#[]⟩)])) 0 [] h) fun v1 h=>
kP (dU (some (1,16,[(.string ⟨#[]⟩)])) v1 a0 h) fun v2 h=>
K v2 h)
| _=>False
def F.jP (E:FE):Spec:=fun args h K=>match args with
| []=>
kP (fO true none h) fun v0 h=>
kv (cA (.struct [(.map none)] [(0,1)]) [(0,v0)]) fun v1=>
kP (aY none v1 h) fun v2 h=>
K v2 h
| _=>False
def F.iH (E:FE):Spec:=fun args h K=>match args with
| []=>
kP (fO true none h) fun v0 h=>
cl (F.jP E) [] h fun v1 h=>
kP (fO true none h) fun v2 h=>
cl (F.mO E) [(.slice none 0 0)] h fun v3 h=>
kv (cA (.struct [(.map none),(.pointer none),(.map none),(.pointer none)] [(0,1),(1,1),(2,1),(3,1)]) [(0,v0),(1,v1),(2,v2),(3,v3)]) fun v4=>
kP (aY none v4 h) fun v5 h=>
K v5 h
| _=>False
def F.fU (E:FE):Spec:=fun args h K=>match args with
| [a0,a1]=>
kv (bH .slice a0 h) fun v0=>
kv (bH .slice a1 h) fun v1=>
kv (aC .bad .neq false v0 v1 h) fun v2=>
ifV v2 (
K (.bool false) h) (
kv (bH .slice a0 h) fun v3=>
∃(Inv4:Nat→List V→aA→Prop) (n4:Nat),Inv4 n4 [(.int .i64 0)] h∧∀(n4:Nat) (e4:Nat→V) (h:aA),Inv4 n4 [(e4 13)] h →
kv (aC .bad .lss false (e4 13) v3 h) fun v5=>
ifV v5 (
kv (aV (.slice 1) a0 (e4 13)) fun v6=>
kv (ldD .one v6 h) fun v7=>
kv (aV (.slice 1) a1 (e4 13)) fun v8=>
kv (ldD .one v8 h) fun v9=>
kv (aC .bad .neq false v7 v9 h) fun v10=>
ifV v10 (
K (.bool false) h) (
kv (aC .bad .add true (e4 13) (.int .i64 1) h) fun v11=>
∃m,m<n4∧Inv4 m [v11] h)) (
K (.bool true) h))
| _=>False
def F.iX (E:FE):Spec:=fun args h K=>match args with
| [a0,a1]=>
kP (aY none a1 h) fun v0 h=>
kv (aC (.ptr true) .neq true a0 (.pointer none) h) fun v1=>
kv (gdV v1 true (some a0)) fun v2=>
kv (gdV v1 true (aM v2)) fun v3=>
kv (gdV v1 true (aF (some 0) v3)) fun v4=>
kv (gdV v1 true (ldD .one v4 h)) fun v5=>
kv (gdV v1 true (ldD (.agg 2) v0 h)) fun v6=>
kv (gdV v1 true (bW (some ((.struct false [(0,.int),(1,.int)]),(some (.bool false)))) v5 v6 false h)) fun v7=>
kv (bC v1 v7 (.bool false)) fun v8=>
K v8 h
| _=>False
def F.lR (E:FE):Spec:=fun args h K=>match args with
| [a0,a1]=>
kP (aY none a1 h) fun v0 h=>
kv (aC (.ptr true) .neq true a0 (.pointer none) h) fun v1=>
kv (gdV v1 true (some a0)) fun v2=>
kv (gdV v1 true (aM v2)) fun v3=>
kv (gdV v1 true (aF (some 3) v3)) fun v4=>
kv (gdV v1 true (ldD .one v4 h)) fun v5=>
kv (gdV v1 true (ldD (.agg 2) v0 h)) fun v6=>
gdC v1 true h (fun K7=>cl (F.iX E) [v5,v6] h fun v h=>K7 v h) fun v8 h=>
kv (bC v1 v8 (.bool false)) fun v9=>
K v9 h
| _=>False
def F.jT (E:FE):Spec:=fun args h K=>match args with
| [a0]=>
kv (aC .bad .geq true a0 (.int .i64 3) h) fun v0=>
kv (gdV v0 true (some a0)) fun v1=>
kv (gdV v0 true (aC .bad .leq true v1 (.int .i64 5) h)) fun v2=>
kv (bC v0 v2 (.bool false)) fun v3=>
ifV v3 (
K (.int .i64 1) h) (
kv (aC .bad .geq true a0 (.int .i64 6) h) fun v4=>
kv (gdV v4 true (some a0)) fun v5=>
kv (gdV v4 true (aC .bad .leq true v5 (.int .i64 9) h)) fun v6=>
kv (bC v4 v6 (.bool false)) fun v7=>
ifV v7 (
K (.int .i64 2) h) (
kv (aC .bad .geq true a0 (.int .i64 10) h) fun v8=>
kv (gdV v8 true (some a0)) fun v9=>
kv (gdV v8 true (aC .bad .leq true v9 (.int .i64 12) h)) fun v10=>
kv (bC v8 v10 (.bool false)) fun v11=>
ifV v11 (
K (.int .i64 3) h) (
K (.int .i64 0) h)))
| _=>False
def F.oX (E:FE):Spec:=fun args h K=>match args with
| [a0,a1,a2,a3]=>
kv (aC .bad .add true a1 (.int .i64 1) h) fun v0=>
∃(Inv1:Nat→List V→aA→Prop) (n1:Nat),Inv1 n1 [v0] h∧∀(n1:Nat) (e1:Nat→V) (h:aA),Inv1 n1 [(e1 8)] h →
kv (aC .bad .lss false (e1 8) a2 h) fun v2=>
ifV v2 (
∃(Inv3:Nat→List V→aA→Prop) (n3:Nat),Inv3 n3 [(e1 8)] h∧∀(n3:Nat) (e3:Nat→V) (h:aA),Inv3 n3 [(e3 9)] h →
kv (aC .bad .gtr false (e3 9) a1 h) fun v4=>
kv (gdV v4 true (some a3)) fun v5=>
kv (gdV v4 true (some a0)) fun v6=>
kv (gdV v4 true (some (e3 9))) fun v7=>
kv (gdV v4 true (aV (.slice 3) v6 v7)) fun v8=>
kv (gdV v4 true (ldD (.agg 3) v8 h)) fun v9=>
kv (gdV v4 true (some a0)) fun v10=>
kv (gdV v4 true (some (e3 9))) fun v11=>
kv (gdV v4 true (aC .bad .sub true v11 (.int .i64 1) h)) fun v12=>
kv (gdV v4 true (aV (.slice 3) v10 v12)) fun v13=>
kv (gdV v4 true (ldD (.agg 3) v13 h)) fun v14=>
gdC v4 true h (fun K15=>cR E.I v5 [v9,v14] h fun v h=>K15 v h) fun v16 h=>
kv (gdV v4 true (aC .bad .lss true v16 (.int .i64 0) h)) fun v17=>
kv (bC v4 v17 (.bool false)) fun v18=>
ifV v18 (
kv (aC .bad .sub true (e3 9) (.int .i64 1) h) fun v19=>
kv (aC .bad .sub true (e3 9) (.int .i64 1) h) fun v20=>
kv (aV (.slice 3) a0 v20) fun v21=>
kv (ldD (.agg 3) v21 h) fun v22=>
kv (aV (.slice 3) a0 (e3 9)) fun v23=>
kv (ldD (.agg 3) v23 h) fun v24=>
kv (aV (.slice 3) a0 (e3 9)) fun v25=>
kH (stD (some 3) v25 v22 h) fun _ h=>
kv (aV (.slice 3) a0 v19) fun v26=>
kH (stD (some 3) v26 v24 h) fun _ h=>
kv (aC .bad .sub true (e3 9) (.int .i64 1) h) fun v27=>
∃m,m<n3∧Inv3 m [v27] h) (
kv (aC .bad .add true (e1 8) (.int .i64 1) h) fun v28=>
∃m,m<n1∧Inv1 m [v28] h)) (
K (.tuple #[]) h)
| _=>False
def Fr.fZ:Nat→FE→Spec
| 0,_=>fun _ _ _=>False
| fuel+1,E=>fun args h K=>match args with
| [a0,a1,a2,a3,a4]=>
∃(Inv0:Nat→List V→aA→Prop) (n0:Nat),Inv0 n0 [a1,a2,a3,(.bool true),(.bool true)] h∧∀(n0:Nat) (e0:Nat→V) (h:aA),Inv0 n0 [(e0 1),(e0 2),(e0 3),(e0 10),(e0 11)] h →
kv (aC .bad .sub false (e0 2) (e0 1) h) fun v1=>
kv (aC .bad .leq true v1 (.int .i64 12) h) fun v2=>
ifV v2 (
cl (F.oX E) [a0,(e0 1),(e0 2),a4] h fun v3 h=>
K (.tuple #[]) h) (
kv (aC .bad .eql true (e0 3) (.int .i64 0) h) fun v4=>
ifV v4 (
False) (
kv (aUn .not (e0 10)) fun v6=>
∃K7:List V→aA→Prop,(
ifV v6 (
False) (
K7 [(e0 3)] h))∧∀(e7:Nat→V) (h:aA),K7 [(e7 3)] h →
False))
| _=>False
def F.fZ (E:FE):Spec:=fun args h K=>∃n,Fr.fZ n E args h K
def F.nP (E:FE):Spec:=fun args h K=>match args with
| [a0,a1]=>
kv (bH .slice a0 h) fun v0=>
kv ((eQ (.int .u64) v0 h).map (·.1)) fun v1=>
cl (F.mJ E) [v1] h fun v2 h=>
cl (F.fZ E) [a0,(.int .i64 0),v0,v2,a1] h fun v3 h=>
K (.tuple #[]) h
| _=>False
def F.nB (E:FE):Spec:=fun args h K=>match args with
| [a0]=>
kv (bH .slice a0 h) fun v0=>
kv (aC .bad .lss true v0 (.int .i64 2) h) fun v1=>
ifV v1 (
K a0 h) (
∃(Inv2:Nat→List V→aA→Prop) (n2:Nat),Inv2 n2 [(.int .i64 1)] h∧∀(n2:Nat) (e2:Nat→V) (h:aA),Inv2 n2 [(e2 3)] h →
kv (bH .slice a0 h) fun v3=>
kv (aC .bad .lss false (e2 3) v3 h) fun v4=>
ifV v4 (
kv (aV (.slice 3) a0 (e2 3)) fun v5=>
kv (ldD (.agg 3) v5 h) fun v6=>
kv (aC .bad .sub true (e2 3) (.int .i64 1) h) fun v7=>
kv (aV (.slice 3) a0 v7) fun v8=>
kv (ldD (.agg 3) v8 h) fun v9=>
kv (aC (.struct [(0,.string),(1,.string),(2,.bool)]) .eql false v6 v9 h) fun v10=>
ifV v10 (
kv (cK (.slice 3) a0 (some (e2 3)) none none h) fun v11=>
∃(Inv12:Nat→List V→aA→Prop) (n12:Nat),Inv12 n12 [(e2 3),(.int .i64 1)] h∧∀(n12:Nat) (e12:Nat→V) (h:aA),Inv12 n12 [(e12 3),(e12 5)] h →
kv (bH .slice v11 h) fun v13=>
kv (aC .bad .lss false (e12 5) v13 h) fun v14=>
ifV v14 (
kv (aV (.slice 3) v11 (e12 5)) fun v15=>
kv (ldD (.agg 3) v15 h) fun v16=>
kv (aC .bad .sub true (e12 5) (.int .i64 1) h) fun v17=>
kv (aV (.slice 3) v11 v17) fun v18=>
kv (ldD (.agg 3) v18 h) fun v19=>
kv (aC (.struct [(0,.string),(1,.string),(2,.bool)]) .neq false v16 v19 h) fun v20=>
ifV v20 (
kv (aV (.slice 3) v11 (e12 5)) fun v21=>
kv (ldD (.agg 3) v21 h) fun v22=>
kv (aV (.slice 3) a0 (e12 3)) fun v23=>
kH (stD (some 3) v23 v22 h) fun _ h=>
kv (aC .bad .add true (e12 3) (.int .i64 1) h) fun v24=>
kv (aC .bad .add true (e12 5) (.int .i64 1) h) fun v25=>
∃m,m<n12∧Inv12 m [v24,v25] h) (
kv (aC .bad .add true (e12 5) (.int .i64 1) h) fun v26=>
∃m,m<n12∧Inv12 m [(e12 3),v26] h)) (
kv (cK (.slice 3) a0 (some (e12 3)) none none h) fun v27=>
kH (qC (some (some [(.string ⟨#[]⟩),(.string ⟨#[]⟩),(.bool false)])) v27 h) fun _ h=>
kv (cK (.slice 3) a0 none (some (e12 3)) none h) fun v28=>
K v28 h)) (
kv (aC .bad .add true (e2 3) (.int .i64 1) h) fun v29=>
∃m,m<n2∧Inv2 m [v29] h)) (
K a0 h))
| _=>False
def F.cmp_isNaN_string (E:FE):Spec:=fun args h K=>match args with
| [a0]=>
kv (aC .bad .neq false a0 a0 h) fun v0=>
K v0 h
| _=>False
def F.kX (E:FE):Spec:=fun args h K=>match args with
| [a0,a1]=>
cl (F.cmp_isNaN_string E) [a0] h fun v0 h=>
cl (F.cmp_isNaN_string E) [a1] h fun v1 h=>
ifV v0 (
ifV v1 (
K (.int .i64 0) h) (
K (.int .i64 (-1)) h)) (
ifV v1 (
K (.int .i64 1) h) (
kv (aC .bad .lss false a0 a1 h) fun v2=>
ifV v2 (
K (.int .i64 (-1)) h) (
kv (aC .bad .gtr false a0 a1 h) fun v3=>
ifV v3 (
K (.int .i64 1) h) (
K (.int .i64 0) h))))
| _=>False
def F.fN (E:FE):Spec:=fun args h K=>match args with
| [a0,a1]=>
kP (aY none a0 h) fun v0 h=>
kP (aY none a1 h) fun v1 h=>
∃K2:List V→aA→Prop,(
kv (aF (some 2) v0) fun v3=>
kv (ldD .one v3 h) fun v4=>
kv (gdV v4 true (aF (some 2) v1)) fun v5=>
kv (gdV v4 true (ldD .one v5 h)) fun v6=>
kv (gdV v4 true (aUn .not v6)) fun v7=>
kv (bC v4 v7 (.bool false)) fun v8=>
ifV v8 (
K2 [(.int .i64 (-1))] h) (
kv (aF (some 2) v1) fun v9=>
kv (ldD .one v9 h) fun v10=>
kv (gdV v10 true (aF (some 2) v0)) fun v11=>
kv (gdV v10 true (ldD .one v11 h)) fun v12=>
kv (gdV v10 true (aUn .not v12)) fun v13=>
kv (bC v10 v13 (.bool false)) fun v14=>
ifV v14 (
K2 [(.int .i64 1)] h) (
K2 [(.int .i64 0)] h)))∧∀(e2:Nat→V) (h:aA),K2 [(e2 5)] h →
kv (aF (some 0) v0) fun v15=>
kv (ldD .one v15 h) fun v16=>
kv (aF (some 0) v1) fun v17=>
kv (ldD .one v17 h) fun v18=>
kv (aF (some 1) v0) fun v19=>
kv (ldD .one v19 h) fun v20=>
kv (aF (some 1) v1) fun v21=>
kv (ldD .one v21 h) fun v22=>
cl (F.kX E) [v16,v18] h fun v23 h=>
ldD .one v19 h=some v20 ∧
ldD .one v21 h=some v22 ∧
cl (F.kX E) [v20,v22] h fun v24 h=>
kP (dN (some (1,[(.int .i64 0)])) 3 [(0,v23),(1,(e2 5)),(2,v24)] h) fun v25 h=>
cl (F.fW E) [v25] h fun v26 h=>
K v26 h
| _=>False
def F.fX (E:FE):Spec:=fun args h K=>match args with
| [a0]=>
cl (F.nP E) [a0,(.func (.func (E.k 9)) #[] #[])] h fun v0 h=>
cl (F.nB E) [a0] h fun v1 h=>
K v1 h
| _=>False
def F.jQ (E:FE):Spec:=fun args h K=>match args with
| [a0]=>
kv (bH .slice a0 h) fun v0=>
∃(Inv1:Nat→List V→aA→Prop) (n1:Nat),Inv1 n1 [(.slice none 0 0),(.int .i64 0)] h∧∀(n1:Nat) (e1:Nat→V) (h:aA),Inv1 n1 [(e1 3),(e1 8)] h →
kv (aC .bad .lss false (e1 8) v0 h) fun v2=>
ifV v2 (
kv (aV (.slice 5) a0 (e1 8)) fun v3=>
kv (ldD (.agg 5) v3 h) fun v4=>
kP (aY none (.agg #[(.int .i64 0),(.string ⟨#[]⟩),(.string ⟨#[]⟩),(.string ⟨#[]⟩),(.int .i64 0)]) h) fun v5 h=>
kH (stD (some 5) v5 v4 h) fun _ h=>
kv (aF (some 0) v5) fun v6=>
kv (ldD .one v6 h) fun v7=>
cl (F.jT E) [v7] h fun v8 h=>
kv (aC .bad .eql true v8 (.int .i64 1) h) fun v9=>
ifV v9 (
kv (aF (some 1) v5) fun v10=>
kv (ldD .one v10 h) fun v11=>
kv (aF (some 2) v5) fun v12=>
kv (ldD .one v12 h) fun v13=>
kv (cA (.struct [(.string ⟨#[]⟩),(.string ⟨#[]⟩),(.bool false)] [(0,1),(1,1),(2,1)]) [(0,v11),(1,v13)]) fun v14=>
kP (dN (some (3,[(.string ⟨#[]⟩),(.string ⟨#[]⟩),(.bool false)])) 1 [(0,v14)] h) fun v15 h=>
kP (dU (some (3,40,[(.string ⟨#[]⟩),(.string ⟨#[]⟩),(.bool false)])) (e1 3) v15 h) fun v16 h=>
kv (aC .bad .add true (e1 8) (.int .i64 1) h) fun v17=>
∃m,m<n1∧Inv1 m [v16,v17] h) (
kv (aF (some 1) v5) fun v18=>
kv (ldD .one v18 h) fun v19=>
kv (cA (.struct [(.string ⟨#[]⟩),(.string ⟨#[]⟩),(.bool false)] [(0,1),(1,1),(2,1)]) [(0,v19),(2,(.bool true))]) fun v20=>
kP (dN (some (3,[(.string ⟨#[]⟩),(.string ⟨#[]⟩),(.bool false)])) 1 [(0,v20)] h) fun v21 h=>
kP (dU (some (3,40,[(.string ⟨#[]⟩),(.string ⟨#[]⟩),(.bool false)])) (e1 3) v21 h) fun v22 h=>
kv (aC .bad .add true (e1 8) (.int .i64 1) h) fun v23=>
∃m,m<n1∧Inv1 m [v22,v23] h)) (
cl (F.fX E) [(e1 3)] h fun v24 h=>
K v24 h)
| _=>False
def F.nK (E:FE):Spec:=fun args h K=>match args with
| [a0,a1]=>
kv (bH .slice a0 h) fun v0=>
∃(Inv1:Nat→List V→aA→Prop) (n1:Nat),Inv1 n1 [(.int .i64 0)] h∧∀(n1:Nat) (e1:Nat→V) (h:aA),Inv1 n1 [(e1 8)] h →
kv (aC .bad .lss false (e1 8) v0 h) fun v2=>
ifV v2 (
kv (aV (.slice 3) a0 (e1 8)) fun v3=>
kv (ldD (.agg 3) v3 h) fun v4=>
cR E.I a1 [v4] h fun v5 h=>
ifV v5 (
K (e1 8) h) (
kv (aC .bad .add true (e1 8) (.int .i64 1) h) fun v6=>
∃m,m<n1∧Inv1 m [v6] h)) (
K (.int .i64 (-1)) h)
| _=>False
def F.lL (E:FE):Spec:=fun args h K=>match args with
| [a0,a1]=>
cl (F.nK E) [a0,a1] h fun v0 h=>
kv (aC .bad .geq true v0 (.int .i64 0) h) fun v1=>
K v1 h
| _=>False
def F.jR (E:FE):Spec:=fun args h K=>match args with
| [a0,a1]=>
kP (aY none a0 h) fun v0 h=>
kP (aY none a1 h) fun v1 h=>
kv (aF (some 0) v0) fun v2=>
kv (ldD .one v2 h) fun v3=>
kv (aF (some 0) v1) fun v4=>
kv (ldD .one v4 h) fun v5=>
kv (aC .bad .eql false v3 v5 h) fun v6=>
kv (gdV v6 true (aF (some 2) v0)) fun v7=>
kv (gdV v6 true (ldD .one v7 h)) fun v8=>
kv (gdV v6 true (some v8)) fun v9=>
kv (gdV v9 false (aF (some 2) v1)) fun v10=>
kv (gdV v9 false (ldD .one v10 h)) fun v11=>
kv (gdV v6 true (bC v9 (.bool true) v11)) fun v12=>
kv (gdV v6 true (some v12)) fun v13=>
kv (gdV v13 false (aF (some 1) v0)) fun v14=>
kv (gdV v13 false (ldD .one v14 h)) fun v15=>
kv (gdV v13 false (aF (some 1) v1)) fun v16=>
kv (gdV v13 false (ldD .one v16 h)) fun v17=>
kv (gdV v13 false (aC .bad .eql false v15 v17 h)) fun v18=>
kv (gdV v6 true (bC v13 (.bool true) v18)) fun v19=>
kv (bC v6 v19 (.bool false)) fun v20=>
K v20 h
| _=>False
def F.jO (E:FE):Spec:=fun args h K=>match args with
| [a0,a1]=>
kP (aY none a0 h) fun v0 h=>
kv (ldD (.agg 3) v0 h) fun v1=>
kv (ldD (.agg 3) a1 h) fun v2=>
cl (F.jR E) [v1,v2] h fun v3 h=>
K v3 h
| _=>False
def F.mG (E:FE):Spec:=fun args h K=>match args with
| [a0,a1,a2]=>
kP (aY none a1 h) fun v0 h=>
kv (aC (.ptr true) .eql true a0 (.pointer none) h) fun v1=>
ifV v1 (
K (.bool false) h) (
kv (aM a0) fun v2=>
kv (aF (some 0) v2) fun v3=>
kv (ldD .one v3 h) fun v4=>
kP (gS .map v4 h) fun v5 h=>
∃(Inv6:Nat→List V→aA→Prop) (n6:Nat),Inv6 n6 [] h∧∀(n6:Nat) (e6:Nat→V) (h:aA),Inv6 n6 [] h →
dS v5 false h fun v7 h=>
kv (bJ v7 0) fun v8=>
ifV v8 (
kV (gV v5 h) h fun v9 h=>
kv (bJ v9 0) fun v10=>
kv (bJ v9 1) fun v11=>
kP (aY none (.agg #[(.string ⟨#[]⟩),(.string ⟨#[]⟩),(.bool false)]) h) fun v12 h=>
kP (aY none (.agg #[(.int .i64 0),(.int .i64 0)]) h) fun v13 h=>
kH (stD (some 3) v12 v10 h) fun _ h=>
kH (stD (some 2) v13 v11 h) fun _ h=>
kv (ldD (.agg 2) v13 h) fun v14=>
kv (ldD (.agg 2) v0 h) fun v15=>
kv (aC (.struct [(0,.int),(1,.int)]) .neq false v14 v15 h) fun v16=>
kv (gdV v16 true (some a2)) fun v17=>
kv (gdV v16 true (some (.func (.func (E.k 8)) #[] #[v12]))) fun v18=>
gdC v16 true h (fun K19=>cl (F.lL E) [v17,v18] h fun v h=>K19 v h) fun v20 h=>
kv (bC v16 v20 (.bool false)) fun v21=>
ifV v21 (
K (.bool false) h) (
∃m,m<n6∧Inv6 m [] h)) (
kv (bH .slice a2 h) fun v22=>
∃(Inv23:Nat→List V→aA→Prop) (n23:Nat),Inv23 n23 [(.int .i64 0)] h∧∀(n23:Nat) (e23:Nat→V) (h:aA),Inv23 n23 [(e23 33)] h →
kv (aC .bad .lss false (e23 33) v22 h) fun v24=>
ifV v24 (
kv (aV (.slice 3) a2 (e23 33)) fun v25=>
kv (ldD (.agg 3) v25 h) fun v26=>
kP (aY none (.agg #[(.string ⟨#[]⟩),(.string ⟨#[]⟩),(.bool false)]) h) fun v27 h=>
kH (stD (some 3) v27 v26 h) fun _ h=>
kv (aM a0) fun v28=>
kv (aF (some 0) v28) fun v29=>
kv (ldD .one v29 h) fun v30=>
kv (ldD (.agg 3) v27 h) fun v31=>
kv (ldD (.agg 2) v0 h) fun v32=>
kH (cU (some ((.struct false [(0,.string),(1,.string),(2,.bool)]),(some (.agg #[(.int .i64 0),(.int .i64 0)])))) v30 v31 v32 h) fun _ h=>
kv (aC .bad .add true (e23 33) (.int .i64 1) h) fun v33=>
∃m,m<n23∧Inv23 m [v33] h) (
K (.bool true) h)))
| _=>False
def F.oJ (E:FE):Spec:=fun args h K=>match args with
| [a0]=>
kv (aC .map .eql true a0 (.map none) h) fun v0=>
ifV v0 (
K (.map none) h) (
iface 319 a0 h fun v1 h=>
cl (F.pL E) [v1] h fun v2 h=>
kv (qW true v2 319 false) fun v3=>
K v3 h)
| _=>False
def F.kM (E:FE):Spec:=fun args h K=>match args with
| [a0]=>
kv (aC (.ptr true) .eql true a0 (.pointer none) h) fun v0=>
ifV v0 (
K (.pointer none) h) (
kv (aM a0) fun v1=>
kv (aF (some 0) v1) fun v2=>
kv (ldD .one v2 h) fun v3=>
cl (F.oJ E) [v3] h fun v4 h=>
kv (cA (.struct [(.map none)] [(0,1)]) [(0,v4)]) fun v5=>
kP (aY none v5 h) fun v6 h=>
K v6 h)
| _=>False
def F.fT (E:FE):Spec:=fun args h K=>match args with
| [a0]=>
kv (aC .slice .eql true a0 (.slice none 0 0) h) fun v0=>
ifV v0 (
K (.slice none 0 0) h) (
kP (dN (some (4,[(.int .i64 0),(.string ⟨#[]⟩),(.int .i64 0),(.int .i64 0)])) 0 [] h) fun v1 h=>
kP (dU (some (4,40,[(.int .i64 0),(.string ⟨#[]⟩),(.int .i64 0),(.int .i64 0)])) v1 a0 h) fun v2 h=>
K v2 h)
| _=>False
def F.kD (E:FE):Spec:=fun args h K=>match args with
| [a0]=>
kv (aC (.ptr true) .eql true a0 (.pointer none) h) fun v0=>
ifV v0 (
K (.pointer none) h) (
kv (aM a0) fun v1=>
kv (aF (some 0) v1) fun v2=>
kv (ldD .one v2 h) fun v3=>
kv (aM a0) fun v4=>
kv (aF (some 1) v4) fun v5=>
kv (ldD .one v5 h) fun v6=>
kv (aM a0) fun v7=>
kv (aF (some 2) v7) fun v8=>
kv (ldD .one v8 h) fun v9=>
kv (aM a0) fun v10=>
kv (aF (some 3) v10) fun v11=>
kv (ldD .one v11 h) fun v12=>
cl (F.fT E) [v6] h fun v13 h=>
ldD .one v2 h=some v3 ∧
ldD .one v8 h=some v9 ∧
ldD .one v11 h=some v12 ∧
cl (F.fT E) [v9] h fun v14 h=>
ldD .one v2 h=some v3 ∧
ldD .one v11 h=some v12 ∧
kv (cA (.struct [(.int .i64 0),(.slice none 0 0),(.slice none 0 0),(.int .i64 0)] [(0,1),(1,1),(2,1),(3,1)]) [(0,v3),(1,v13),(2,v14),(3,v12)]) fun v15=>
kP (aY none v15 h) fun v16 h=>
K v16 h)
| _=>False
def F.oI (E:FE):Spec:=fun args h K=>match args with
| [a0]=>
kv (aC .map .eql true a0 (.map none) h) fun v0=>
ifV v0 (
K (.map none) h) (
iface 300 a0 h fun v1 h=>
cl (F.pL E) [v1] h fun v2 h=>
kv (qW true v2 300 false) fun v3=>
K v3 h)
| _=>False
def F.kQ (E:FE):Spec:=fun args h K=>match args with
| [a0]=>
kv (aC (.ptr true) .eql true a0 (.pointer none) h) fun v0=>
ifV v0 (
K (.pointer none) h) (
kv (aM a0) fun v1=>
kv (aF (some 0) v1) fun v2=>
kv (ldD .one v2 h) fun v3=>
kv (aM a0) fun v4=>
kv (aF (some 1) v4) fun v5=>
kv (ldD .one v5 h) fun v6=>
cl (F.fC E) [v3] h fun v7 h=>
ldD .one v5 h=some v6 ∧
cl (F.oI E) [v6] h fun v8 h=>
kv (cA (.struct [(.slice none 0 0),(.map none)] [(0,1),(1,1)]) [(0,v7),(1,v8)]) fun v9=>
kP (aY none v9 h) fun v10 h=>
K v10 h)
| _=>False
def F.fD (E:FE):Spec:=fun args h K=>match args with
| [a0]=>
kv (aC (.ptr true) .eql true a0 (.pointer none) h) fun v0=>
ifV v0 (
K (.pointer none) h) (
kv (aM a0) fun v1=>
kv (aF (some 0) v1) fun v2=>
kv (ldD .one v2 h) fun v3=>
kv (aM a0) fun v4=>
kv (aF (some 1) v4) fun v5=>
kv (ldD .one v5 h) fun v6=>
kv (aM a0) fun v7=>
kv (aF (some 2) v7) fun v8=>
kv (ldD .one v8 h) fun v9=>
kv (aM a0) fun v10=>
kv (aF (some 3) v10) fun v11=>
kv (ldD .one v11 h) fun v12=>
cl (F.kM E) [v6] h fun v13 h=>
ldD .one v2 h=some v3 ∧
ldD .one v8 h=some v9 ∧
ldD .one v11 h=some v12 ∧
cl (F.kD E) [v9] h fun v14 h=>
ldD .one v2 h=some v3 ∧
ldD .one v11 h=some v12 ∧
cl (F.kQ E) [v12] h fun v15 h=>
ldD .one v2 h=some v3 ∧
kv (cA (.struct [(.int .i64 0),(.pointer none),(.pointer none),(.pointer none)] [(0,1),(1,1),(2,1),(3,1)]) [(0,v3),(1,v13),(2,v14),(3,v15)]) fun v16=>
kP (aY none v16 h) fun v17 h=>
K v17 h)
| _=>False
def F.oA (E:FE):Spec:=fun args h K=>match args with
| [a0,a1,a2]=>
kv (aM a1) fun v0=>
kv (aF (some 3) v0) fun v1=>
kv (ldD .one v1 h) fun v2=>
kv (bW (some (.string,(some (.pointer none)))) v2 a2 true h) fun v3=>
kv (bJ v3 0) fun v4=>
kv (bJ v3 1) fun v5=>
ifV v5 (
K v4 h) (
kv (aM a0) fun v6=>
kv (aF (some 0) v6) fun v7=>
kv (ldD .one v7 h) fun v8=>
kv (bW (some (.string,(some (.pointer none)))) v8 a2 false h) fun v9=>
cl (F.fD E) [v9] h fun v10 h=>
kv (aM a1) fun v11=>
kv (aF (some 3) v11) fun v12=>
kv (ldD .one v12 h) fun v13=>
kH (cU (some (.string,(some (.pointer none)))) v13 a2 v10 h) fun _ h=>
K v10 h)
| _=>False
def F.nX (E:FE):Spec:=fun args h K=>match args with
| [a0,a1]=>
kv (aM a0) fun v0=>
kv (aF (some 0) v0) fun v1=>
kv (ldD .one v1 h) fun v2=>
kP (gS .map v2 h) fun v3 h=>
∃(Inv4:Nat→List V→aA→Prop) (n4:Nat),Inv4 n4 [(.int .i64 0)] h∧∀(n4:Nat) (e4:Nat→V) (h:aA),Inv4 n4 [(e4 5)] h →
dS v3 false h fun v5 h=>
kv (bJ v5 0) fun v6=>
ifV v6 (
kV (gV v3 h) h fun v7 h=>
kv (bJ v7 0) fun v8=>
kv (aM a1) fun v9=>
kv (aF (some 3) v9) fun v10=>
kv (ldD .one v10 h) fun v11=>
kv (bW (some (.string,(some (.pointer none)))) v11 v8 true h) fun v12=>
kv (bJ v12 0) fun v13=>
kv (bJ v12 1) fun v14=>
kv (aUn .not v14) fun v15=>
kv (gdV v15 false (some v13)) fun v16=>
kv (gdV v15 false (aC (.ptr true) .neq true v16 (.pointer none) h)) fun v17=>
kv (bC v15 (.bool true) v17) fun v18=>
ifV v18 (
kv (aC .bad .add true (e4 5) (.int .i64 1) h) fun v19=>
∃m,m<n4∧Inv4 m [v19] h) (
∃m,m<n4∧Inv4 m [(e4 5)] h)) (
kv (aM a1) fun v20=>
kv (aF (some 3) v20) fun v21=>
kv (ldD .one v21 h) fun v22=>
kP (gS .map v22 h) fun v23 h=>
∃(Inv24:Nat→List V→aA→Prop) (n24:Nat),Inv24 n24 [(e4 5)] h∧∀(n24:Nat) (e24:Nat→V) (h:aA),Inv24 n24 [(e24 5)] h →
dS v23 false h fun v25 h=>
kv (bJ v25 0) fun v26=>
ifV v26 (
kV (gV v23 h) h fun v27 h=>
kv (bJ v27 0) fun v28=>
kv (bJ v27 1) fun v29=>
kv (aC (.ptr true) .neq true v29 (.pointer none) h) fun v30=>
kv (gdV v30 true (some a0)) fun v31=>
kv (gdV v30 true (aM v31)) fun v32=>
kv (gdV v30 true (aF (some 0) v32)) fun v33=>
kv (gdV v30 true (ldD .one v33 h)) fun v34=>
kv (gdV v30 true (some v28)) fun v35=>
kv (gdV v30 true (bW (some (.string,(some (.pointer none)))) v34 v35 false h)) fun v36=>
kv (gdV v30 true (aC (.ptr true) .eql true v36 (.pointer none) h)) fun v37=>
kv (bC v30 v37 (.bool false)) fun v38=>
ifV v38 (
kv (aC .bad .add true (e24 5) (.int .i64 1) h) fun v39=>
∃m,m<n24∧Inv24 m [v39] h) (
∃m,m<n24∧Inv24 m [(e24 5)] h)) (
kv (aM a0) fun v40=>
kv (aF (some 2) v40) fun v41=>
kv (ldD .one v41 h) fun v42=>
kP (gS .map v42 h) fun v43 h=>
∃(Inv44:Nat→List V→aA→Prop) (n44:Nat),Inv44 n44 [(e24 5)] h∧∀(n44:Nat) (e44:Nat→V) (h:aA),Inv44 n44 [(e44 5)] h →
dS v43 false h fun v45 h=>
kv (bJ v45 0) fun v46=>
ifV v46 (
kV (gV v43 h) h fun v47 h=>
kv (bJ v47 1) fun v48=>
kv (aM v48) fun v49=>
kv (aF (some 0) v49) fun v50=>
kv (ldD .one v50 h) fun v51=>
kv (bH .slice v51 h) fun v52=>
∃(Inv53:Nat→List V→aA→Prop) (n53:Nat),Inv53 n53 [(e44 5),(.int .i64 0)] h∧∀(n53:Nat) (e53:Nat→V) (h:aA),Inv53 n53 [(e53 5),(e53 78)] h →
kv (aC .bad .lss false (e53 78) v52 h) fun v54=>
ifV v54 (
kv (aV (.slice 5) v51 (e53 78)) fun v55=>
kv (ldD (.agg 5) v55 h) fun v56=>
kP (aY none (.agg #[(.int .i64 0),(.string ⟨#[]⟩),(.string ⟨#[]⟩),(.string ⟨#[]⟩),(.int .i64 0)]) h) fun v57 h=>
kH (stD (some 5) v57 v56 h) fun _ h=>
kv (aF (some 0) v57) fun v58=>
kv (ldD .one v58 h) fun v59=>
kv (aC .bad .eql true v59 (.int .i64 1) h) fun v60=>
ifV v60 (
kv (aC .bad .add true (e53 5) (.int .i64 1) h) fun v61=>
kv (aC .bad .add true (e53 78) (.int .i64 1) h) fun v62=>
∃m,m<n53∧Inv53 m [v61,v62] h) (
kv (aC .bad .add true (e53 78) (.int .i64 1) h) fun v63=>
∃m,m<n53∧Inv53 m [(e53 5),v63] h)) (
∃m,m<n44∧Inv44 m [(e53 5)] h)) (
K (e44 5) h)))
| _=>False
def F.kL (E:FE):Spec:=fun args h K=>match args with
| []=>
kP (fO true none h) fun v0 h=>
kv (cA (.struct [(.map none)] [(0,1)]) [(0,v0)]) fun v1=>
kP (aY none v1 h) fun v2 h=>
K v2 h
| _=>False
def F.jZ (E:FE):Spec:=fun args h K=>match args with
| [a0]=>
kv (gI true [a0,(.int .i64 1)]) fun v0=>
kv (gI false [v0,(.int .i64 9)]) fun v1=>
kv (cA (.struct [(.int .i64 0),(.slice none 0 0),(.slice none 0 0),(.int .i64 0)] [(0,1),(1,1),(2,1),(3,1)]) [(0,v1),(3,(.int .i64 1))]) fun v2=>
kP (aY none v2 h) fun v3 h=>
K v3 h
| _=>False
def F.kO (E:FE):Spec:=fun args h K=>match args with
| []=>
kP (fO true none h) fun v0 h=>
kv (cA (.struct [(.slice none 0 0),(.map none)] [(0,1),(1,1)]) [(1,v0)]) fun v1=>
kP (aY none v1 h) fun v2 h=>
K v2 h
| _=>False
def F.gC (E:FE):Spec:=fun args h K=>match args with
| [a0,a1]=>
kv (cA (.struct [(.int .i64 0),(.pointer none),(.pointer none),(.pointer none)] [(0,1),(1,1),(2,1),(3,1)]) [(0,a0)]) fun v0=>
kP (aY none v0 h) fun v1 h=>
kv (aC .bad .eql true a0 (.int .i64 1) h) fun v2=>
ifV v2 (
cl (F.kL E) [] h fun v3 h=>
kv (aM v1) fun v4=>
kv (aF (some 1) v4) fun v5=>
kH (stD (some 1) v5 v3 h) fun _ h=>
K v1 h) (
kv (aC .bad .eql true a0 (.int .i64 2) h) fun v6=>
ifV v6 (
cl (F.jZ E) [a1] h fun v7 h=>
kv (aM v1) fun v8=>
kv (aF (some 2) v8) fun v9=>
kH (stD (some 1) v9 v7 h) fun _ h=>
K v1 h) (
kv (aC .bad .eql true a0 (.int .i64 3) h) fun v10=>
ifV v10 (
cl (F.kO E) [] h fun v11 h=>
kv (aM v1) fun v12=>
kv (aF (some 3) v12) fun v13=>
kH (stD (some 1) v13 v11 h) fun _ h=>
K v1 h) (
K (.pointer none) h)))
| _=>False
def F.iG (E:FE):Spec:=fun args h K=>match args with
| [a0,a1,a2]=>
kv (aC (.ptr true) .eql true a0 (.pointer none) h) fun v0=>
ifV v0 (
K (.bool false) h) (
kv (aM a0) fun v1=>
kv (aF (some 0) v1) fun v2=>
kv (ldD .one v2 h) fun v3=>
kv (bW (some (.string,(some (.string ⟨#[]⟩)))) v3 a1 true h) fun v4=>
kv (bJ v4 0) fun v5=>
kv (bJ v4 1) fun v6=>
kv (aM a0) fun v7=>
kv (aF (some 0) v7) fun v8=>
kv (ldD .one v8 h) fun v9=>
kH (cU (some (.string,(some (.string ⟨#[]⟩)))) v9 a1 a2 h) fun _ h=>
kv (aUn .not v6) fun v10=>
K v10 h)
| _=>False
def F.eM (E:FE):Spec:=fun args h K=>match args with
| [a0,a1]=>
kv (aC (.ptr true) .eql true a0 (.pointer none) h) fun v0=>
ifV v0 (
K (.tuple #[(.string ⟨#[]⟩),(.bool false)]) h) (
kv (aM a0) fun v1=>
kv (aF (some 0) v1) fun v2=>
kv (ldD .one v2 h) fun v3=>
kv (bW (some (.string,(some (.string ⟨#[]⟩)))) v3 a1 true h) fun v4=>
kv (bJ v4 0) fun v5=>
kv (bJ v4 1) fun v6=>
K (.tuple #[v5,v6]) h)
| _=>False
def F.iF (E:FE):Spec:=fun args h K=>match args with
| [a0,a1]=>
cl (F.eM E) [a0,a1] h fun v0 h=>
kv (bJ v0 0) fun v1=>
kv (bJ v0 1) fun v2=>
kv (aUn .not v2) fun v3=>
ifV v3 (
K (.bool false) h) (
kv (aM a0) fun v4=>
kv (aF (some 0) v4) fun v5=>
kv (ldD .one v5 h) fun v6=>
kH (gL (some (.string,(some (.string ⟨#[]⟩)))) v6 a1 h) fun _ h=>
K (.bool true) h)
| _=>False
def F.lO (E:FE):Spec:=fun args h K=>match args with
| [a0,a1]=>
kP (aY none a1 h) fun v0 h=>
kv (aF (some 0) v0) fun v1=>
kv (ldD .one v1 h) fun v2=>
kv (aC .bad .eql true v2 (.int .i64 4) h) fun v3=>
ifV v3 (
kv (aM a0) fun v4=>
kv (aF (some 1) v4) fun v5=>
kv (ldD .one v5 h) fun v6=>
kv (aF (some 2) v0) fun v7=>
kv (ldD .one v7 h) fun v8=>
kv (aF (some 3) v0) fun v9=>
kv (ldD .one v9 h) fun v10=>
cl (F.iG E) [v6,v8,v10] h fun v11 h=>
K (.string ⟨#[]⟩) h) (
kv (aC .bad .eql true v2 (.int .i64 5) h) fun v12=>
ifV v12 (
kv (aM a0) fun v13=>
kv (aF (some 1) v13) fun v14=>
kv (ldD .one v14 h) fun v15=>
kv (aF (some 2) v0) fun v16=>
kv (ldD .one v16 h) fun v17=>
cl (F.iF E) [v15,v17] h fun v18 h=>
ifV v18 (
K (.string ⟨#[61]⟩) h) (
K (.string ⟨#[45]⟩) h)) (
kv (aM a0) fun v19=>
kv (aF (some 1) v19) fun v20=>
kv (ldD .one v20 h) fun v21=>
kv (aF (some 2) v0) fun v22=>
kv (ldD .one v22 h) fun v23=>
cl (F.eM E) [v21,v23] h fun v24 h=>
kv (bJ v24 0) fun v25=>
kv (bJ v24 1) fun v26=>
ifV v26 (
kv (aC .bad .add true (.string ⟨#[61]⟩) v25 h) fun v27=>
K v27 h) (
K (.string ⟨#[45]⟩) h)))
| _=>False
def F.mW (E:FE):Spec:=fun args h K=>match args with
| [a0,a1]=>
kv (aC (.ptr true) .eql true a0 (.pointer none) h) fun v0=>
kv (gdV v0 false (some a0)) fun v1=>
kv (gdV v0 false (aM v1)) fun v2=>
kv (gdV v0 false (aF (some 1) v2)) fun v3=>
kv (gdV v0 false (ldD .one v3 h)) fun v4=>
kv (gdV v0 false (bH .slice v4 h)) fun v5=>
kv (gdV v0 false (some a0)) fun v6=>
kv (gdV v0 false (aM v6)) fun v7=>
kv (gdV v0 false (aF (some 2) v7)) fun v8=>
kv (gdV v0 false (ldD .one v8 h)) fun v9=>
kv (gdV v0 false (bH .slice v9 h)) fun v10=>
kv (gdV v0 false (aC .bad .add false v5 v10 h)) fun v11=>
kv (gdV v0 false (aC .bad .geq true v11 (.int .i64 64) h)) fun v12=>
kv (bC v0 (.bool true) v12) fun v13=>
ifV v13 (
K (.tuple #[(.int .i64 0),(.bool false)]) h) (
kv (aM a0) fun v14=>
kv (aF (some 1) v14) fun v15=>
kv (ldD .one v15 h) fun v16=>
kv (aM a0) fun v17=>
kv (aF (some 3) v17) fun v18=>
kv (ldD .one v18 h) fun v19=>
kv (cA (.struct [(.int .i64 0),(.string ⟨#[]⟩),(.int .i64 0),(.int .i64 0)] [(0,1),(1,1),(2,1),(3,1)]) [(0,v19),(1,a1)]) fun v20=>
kP (dN (some (4,[(.int .i64 0),(.string ⟨#[]⟩),(.int .i64 0),(.int .i64 0)])) 1 [(0,v20)] h) fun v21 h=>
ldD .one v15 h=some v16 ∧
kP (dU (some (4,40,[(.int .i64 0),(.string ⟨#[]⟩),(.int .i64 0),(.int .i64 0)])) v16 v21 h) fun v22 h=>
kv (aM a0) fun v23=>
kv (aF (some 1) v23) fun v24=>
kH (stD (some 1) v24 v22 h) fun _ h=>
kv (aM a0) fun v25=>
kv (aF (some 3) v25) fun v26=>
kv (ldD .one v26 h) fun v27=>
kv (aC .bad .add true v27 (.int .i64 1) h) fun v28=>
kv (aM a0) fun v29=>
kv (aF (some 3) v29) fun v30=>
kH (stD (some 1) v30 v28 h) fun _ h=>
kv (aM a0) fun v31=>
kv (aF (some 3) v31) fun v32=>
kv (ldD .one v32 h) fun v33=>
kv (aC .bad .sub true v33 (.int .i64 1) h) fun v34=>
K (.tuple #[v34,(.bool true)]) h)
| _=>False
def F.dF (E:FE):Spec:=fun args h K=>match args with
| [a0]=>
cl (F.zJ E) [a0,(.int .i64 10)] h fun v0 h=>
K v0 h
| _=>False
def F.fY (E:FE):Spec:=fun args h K=>match args with
| [a0,a1,a2]=>
kv (bH .slice a0 h) fun v0=>
kv (cK (.slice 4) a0 (some a1) (some a2) (some v0) h) fun v1=>
kv (aC .bad .eql false a1 a2 h) fun v2=>
ifV v2 (
K a0 h) (
kv (bH .slice a0 h) fun v3=>
kv (cK (.slice 4) a0 none (some a1) none h) fun v4=>
kv (cK (.slice 4) a0 (some a2) none none h) fun v5=>
kP (dU (some (4,40,[(.int .i64 0),(.string ⟨#[]⟩),(.int .i64 0),(.int .i64 0)])) v4 v5 h) fun v6 h=>
kv (bH .slice v6 h) fun v7=>
kv (cK (.slice 4) v6 (some v7) (some v3) none h) fun v8=>
kH (qC (some (some [(.int .i64 0),(.string ⟨#[]⟩),(.int .i64 0),(.int .i64 0)])) v8 h) fun _ h=>
K v6 h)
| _=>False
def F.lK (E:FE):Spec:=fun args h K=>match args with
| [a0,a1,a2]=>
kP (aY none (.agg #[(.int .i64 0),(.string ⟨#[]⟩),(.int .i64 0),(.int .i64 0)]) h) fun v0 h=>
kv (aC (.ptr true) .eql true a0 (.pointer none) h) fun v1=>
kv (gdV v1 false (some a2)) fun v2=>
kv (gdV v1 false (aC .bad .lss true v2 (.int .i64 1) h)) fun v3=>
kv (bC v1 (.bool true) v3) fun v4=>
kv (gdV v4 false (some a2)) fun v5=>
kv (gdV v4 false (aC .bad .gtr true v5 (.int .i64 1000) h)) fun v6=>
kv (bC v4 (.bool true) v6) fun v7=>
kv (gdV v7 false (some a1)) fun v8=>
kv (gdV v7 false (aC .bad .lss true v8 (.int .i64 0) h)) fun v9=>
kv (bC v7 (.bool true) v9) fun v10=>
kv (gdV v10 false (some a1)) fun v11=>
kv (gdV v10 false (aC .bad .gtr true v11 (.int .i64 1099511627776) h)) fun v12=>
kv (bC v10 (.bool true) v12) fun v13=>
ifV v13 (
kv (cA (.struct [(.int .i64 0),(.string ⟨#[]⟩),(.int .i64 0),(.int .i64 0)] [(0,1),(1,1),(2,1),(3,1)]) []) fun v14=>
kH (stD (some 4) v0 v14 h) fun _ h=>
kv (ldD (.agg 4) v0 h) fun r15=>
K (.tuple #[r15,(.bool false)]) h) (
∃(Inv16:Nat→List V→aA→Prop) (n16:Nat),Inv16 n16 [(.int .i64 0)] h∧∀(n16:Nat) (e16:Nat→V) (h:aA),Inv16 n16 [(e16 8)] h →
kv (aM a0) fun v17=>
kv (aF (some 1) v17) fun v18=>
kv (ldD .one v18 h) fun v19=>
kv (bH .slice v19 h) fun v20=>
kv (aC .bad .lss false (e16 8) v20 h) fun v21=>
ifV v21 (
kv (aM a0) fun v22=>
kv (aF (some 1) v22) fun v23=>
kv (ldD .one v23 h) fun v24=>
kv (aV (.slice 4) v24 (e16 8)) fun v25=>
kv (aM v25) fun v26=>
kv (aF (some 3) v26) fun v27=>
kv (ldD .one v27 h) fun v28=>
kv (aC .bad .gtr false v28 a1 h) fun v29=>
ifV v29 (
kv (aC .bad .add true (e16 8) (.int .i64 1) h) fun v30=>
∃m,m<n16∧Inv16 m [v30] h) (
kv (aM v25) fun v31=>
kv (aF (some 2) v31) fun v32=>
kv (ldD .one v32 h) fun v33=>
kv (aM a0) fun v34=>
kv (aF (some 0) v34) fun v35=>
kv (ldD .one v35 h) fun v36=>
kv (aC .bad .geq false v33 v36 h) fun v37=>
ifV v37 (
kv (aM a0) fun v38=>
kv (aF (some 2) v38) fun v39=>
kv (ldD .one v39 h) fun v40=>
kv (aM v25) fun v41=>
kv (ldD (.agg 4) v41 h) fun v42=>
kP (dN (some (4,[(.int .i64 0),(.string ⟨#[]⟩),(.int .i64 0),(.int .i64 0)])) 1 [(0,v42)] h) fun v43 h=>
ldD .one v39 h=some v40 ∧
kP (dU (some (4,40,[(.int .i64 0),(.string ⟨#[]⟩),(.int .i64 0),(.int .i64 0)])) v40 v43 h) fun v44 h=>
kv (aM a0) fun v45=>
kv (aF (some 2) v45) fun v46=>
kH (stD (some 1) v46 v44 h) fun _ h=>
kv (aM a0) fun v47=>
kv (aF (some 1) v47) fun v48=>
kv (ldD .one v48 h) fun v49=>
kv (aC .bad .add true (e16 8) (.int .i64 1) h) fun v50=>
cl (F.fY E) [v49,(e16 8),v50] h fun v51 h=>
kv (aM a0) fun v52=>
kv (aF (some 1) v52) fun v53=>
kH (stD (some 1) v53 v51 h) fun _ h=>
∃m,m<n16∧Inv16 m [(e16 8)] h) (
kv (aM v25) fun v54=>
kv (aF (some 2) v54) fun v55=>
kv (ldD .one v55 h) fun v56=>
kv (aC .bad .add true v56 (.int .i64 1) h) fun v57=>
kv (aM v25) fun v58=>
kv (aF (some 2) v58) fun v59=>
kH (stD (some 1) v59 v57 h) fun _ h=>
kv (aC .bad .add false a1 a2 h) fun v60=>
kv (aM v25) fun v61=>
kv (aF (some 3) v61) fun v62=>
kH (stD (some 1) v62 v60 h) fun _ h=>
kv (aM v25) fun v63=>
kv (ldD (.agg 4) v63 h) fun v64=>
kH (stD (some 4) v0 v64 h) fun _ h=>
kv (ldD (.agg 4) v0 h) fun r65=>
K (.tuple #[r65,(.bool true)]) h))) (
kv (cA (.struct [(.int .i64 0),(.string ⟨#[]⟩),(.int .i64 0),(.int .i64 0)] [(0,1),(1,1),(2,1),(3,1)]) []) fun v66=>
kH (stD (some 4) v0 v66 h) fun _ h=>
kv (ldD (.agg 4) v0 h) fun r67=>
K (.tuple #[r67,(.bool false)]) h))
| _=>False
def F.gF (E:FE):Spec:=fun args h K=>match args with
| [a0]=>
kv (aC .bad .eql true a0 (.string ⟨#[]⟩) h) fun v0=>
kv (gdV v0 false (some a0)) fun v1=>
kv (gdV v0 false (bH .str v1 h)) fun v2=>
kv (gdV v0 false (aC .bad .gtr true v2 (.int .i64 12) h)) fun v3=>
kv (bC v0 (.bool true) v3) fun v4=>
kv (gdV v4 false (some a0)) fun v5=>
gdC v4 false h (fun K6=>cl (F.zK E) [v5,(.string ⟨#[48,49,50,51,52,53,54,55,56,57]⟩)] h fun v h=>K6 v h) fun v7 h=>
kv (gdV v4 false (aC .bad .neq true v7 (.string ⟨#[]⟩) h)) fun v8=>
kv (bC v4 (.bool true) v8) fun v9=>
kv (gdV v9 false (some a0)) fun v10=>
kv (gdV v9 false (iQ .str v10 (.int .i64 0))) fun v11=>
kv (gdV v9 false (aC .bad .eql true v11 (.int .u8 48) h)) fun v12=>
kv (gdV v9 false (some v12)) fun v13=>
kv (gdV v13 true (some a0)) fun v14=>
kv (gdV v13 true (bH .str v14 h)) fun v15=>
kv (gdV v13 true (aC .bad .gtr true v15 (.int .i64 1) h)) fun v16=>
kv (gdV v9 false (bC v13 v16 (.bool false))) fun v17=>
kv (bC v9 (.bool true) v17) fun v18=>
ifV v18 (
K (.tuple #[(.int .i64 0),(.bool false)]) h) (
cl (F.wP E) [a0,(.int .i64 10),(.int .i64 64)] h fun v19 h=>
kv (bJ v19 0) fun v20=>
kv (bJ v19 1) fun v21=>
kv (aC .iface .eql true v21 .nilIface h) fun v22=>
K (.tuple #[v20,v22]) h)
| _=>False
def F.nH (E:FE):Spec:=fun args h K=>match args with
| [a0,a1]=>
kv (bH .slice a0 h) fun v0=>
∃(Inv1:Nat→List V→aA→Prop) (n1:Nat),Inv1 n1 [(.int .i64 0)] h∧∀(n1:Nat) (e1:Nat→V) (h:aA),Inv1 n1 [(e1 8)] h →
kv (aC .bad .lss false (e1 8) v0 h) fun v2=>
ifV v2 (
kv (aV (.slice 4) a0 (e1 8)) fun v3=>
kv (ldD (.agg 4) v3 h) fun v4=>
cR E.I a1 [v4] h fun v5 h=>
ifV v5 (
K (e1 8) h) (
kv (aC .bad .add true (e1 8) (.int .i64 1) h) fun v6=>
∃m,m<n1∧Inv1 m [v6] h)) (
K (.int .i64 (-1)) h)
| _=>False
def F.gR (E:FE):Spec:=fun args h K=>match args with
| [a0,a1,a2,a3]=>
kP (aY none a0 h) fun v0 h=>
kv (aF (some 0) v0) fun v1=>
kv (ldD .one v1 h) fun v2=>
kv (ldD .one a1 h) fun v3=>
kv (aC .bad .eql false v2 v3 h) fun v4=>
kv (gdV v4 true (aF (some 2) v0)) fun v5=>
kv (gdV v4 true (ldD .one v5 h)) fun v6=>
kv (gdV v4 true (ldD .one a2 h)) fun v7=>
kv (gdV v4 true (aC .bad .eql false v6 v7 h)) fun v8=>
kv (bC v4 v8 (.bool false)) fun v9=>
kv (gdV v9 true (aF (some 3) v0)) fun v10=>
kv (gdV v9 true (ldD .one v10 h)) fun v11=>
kv (gdV v9 true (ldD .one a3 h)) fun v12=>
kv (gdV v9 true (aC .bad .gtr false v11 v12 h)) fun v13=>
kv (bC v9 v13 (.bool false)) fun v14=>
K v14 h
| _=>False
def F.mU (E:FE):Spec:=fun args h K=>match args with
| [a0,a1,a2,a3]=>
kP (aY none a1 h) fun v0 h=>
kP (aY none a2 h) fun v1 h=>
kP (aY none a3 h) fun v2 h=>
kv (aC (.ptr true) .eql true a0 (.pointer none) h) fun v3=>
ifV v3 (
K (.bool false) h) (
kv (aM a0) fun v4=>
kv (aF (some 1) v4) fun v5=>
kv (ldD .one v5 h) fun v6=>
cl (F.nH E) [v6,(.func (.func (E.k 0)) #[] #[v0,v1,v2])] h fun v7 h=>
kv (aC .bad .lss true v7 (.int .i64 0) h) fun v8=>
ifV v8 (
K (.bool false) h) (
kv (aM a0) fun v9=>
kv (aF (some 1) v9) fun v10=>
kv (ldD .one v10 h) fun v11=>
kv (aC .bad .add true v7 (.int .i64 1) h) fun v12=>
cl (F.fY E) [v11,v7,v12] h fun v13 h=>
kv (aM a0) fun v14=>
kv (aF (some 1) v14) fun v15=>
kH (stD (some 1) v15 v13 h) fun _ h=>
K (.bool true) h))
| _=>False
def F.mV (E:FE):Spec:=fun args h K=>match args with
| [a0]=>
kP (aY none (.agg #[(.int .i64 0),(.string ⟨#[]⟩),(.int .i64 0),(.int .i64 0)]) h) fun v0 h=>
kv (aC (.ptr true) .eql true a0 (.pointer none) h) fun v1=>
kv (gdV v1 false (some a0)) fun v2=>
kv (gdV v1 false (aM v2)) fun v3=>
kv (gdV v1 false (aF (some 2) v3)) fun v4=>
kv (gdV v1 false (ldD .one v4 h)) fun v5=>
kv (gdV v1 false (bH .slice v5 h)) fun v6=>
kv (gdV v1 false (aC .bad .eql true v6 (.int .i64 0) h)) fun v7=>
kv (bC v1 (.bool true) v7) fun v8=>
ifV v8 (
kv (cA (.struct [(.int .i64 0),(.string ⟨#[]⟩),(.int .i64 0),(.int .i64 0)] [(0,1),(1,1),(2,1),(3,1)]) []) fun v9=>
kH (stD (some 4) v0 v9 h) fun _ h=>
kv (ldD (.agg 4) v0 h) fun r10=>
K (.tuple #[r10,(.bool false)]) h) (
kv (aM a0) fun v11=>
kv (aF (some 2) v11) fun v12=>
kv (ldD .one v12 h) fun v13=>
kv (aV (.slice 4) v13 (.int .i64 0)) fun v14=>
kv (ldD (.agg 4) v14 h) fun v15=>
kP (aY none (.agg #[(.int .i64 0),(.string ⟨#[]⟩),(.int .i64 0),(.int .i64 0)]) h) fun v16 h=>
kH (stD (some 4) v16 v15 h) fun _ h=>
kv (aM a0) fun v17=>
kv (aF (some 2) v17) fun v18=>
kv (ldD .one v18 h) fun v19=>
cl (F.fY E) [v19,(.int .i64 0),(.int .i64 1)] h fun v20 h=>
kv (aM a0) fun v21=>
kv (aF (some 2) v21) fun v22=>
kH (stD (some 1) v22 v20 h) fun _ h=>
kv (ldD (.agg 4) v16 h) fun v23=>
kH (stD (some 4) v0 v23 h) fun _ h=>
kv (ldD (.agg 4) v0 h) fun r24=>
K (.tuple #[r24,(.bool true)]) h)
| _=>False
def F.lN (E:FE):Spec:=fun args h K=>match args with
| [a0,a1,a2]=>
kP (aY none a1 h) fun v0 h=>
kv (aF (some 0) v0) fun v1=>
kv (ldD .one v1 h) fun v2=>
kv (aC .bad .eql true v2 (.int .i64 6) h) fun v3=>
ifV v3 (
kv (aM a0) fun v4=>
kv (aF (some 2) v4) fun v5=>
kv (ldD .one v5 h) fun v6=>
kv (aF (some 3) v0) fun v7=>
kv (ldD .one v7 h) fun v8=>
cl (F.mW E) [v6,v8] h fun v9 h=>
kv (bJ v9 0) fun v10=>
kv (bJ v9 1) fun v11=>
kv (aUn .not v11) fun v12=>
ifV v12 (
K (.tuple #[(.string ⟨#[]⟩),(.int .i64 6)]) h) (
cl (F.dF E) [v10] h fun v13 h=>
K (.tuple #[v13,(.int .i64 0)]) h)) (
kv (aC .bad .eql true v2 (.int .i64 7) h) fun v14=>
ifV v14 (
kv (aM a0) fun v15=>
kv (aF (some 2) v15) fun v16=>
kv (ldD .one v16 h) fun v17=>
kv (aF (some 4) v0) fun v18=>
kv (ldD .one v18 h) fun v19=>
(cl (F.lK E) [v17,a2,v19] h fun v20 h=>
kv (bJ v20 0) fun v21=>
kv (bJ v20 1) fun v22=>
kP (aY none (.agg #[(.int .i64 0),(.string ⟨#[]⟩),(.int .i64 0),(.int .i64 0)]) h) fun v23 h=>
ldD .one v16 h=some v17 ∧
ldD .one v18 h=some v19 ∧
kH (stD (some 4) v23 v21 h) fun _ h=>
ifV v22 (
kv (aF (some 0) v23) fun v24=>
kv (ldD .one v24 h) fun v25=>
kv (aF (some 2) v23) fun v26=>
kv (ldD .one v26 h) fun v27=>
kv (aF (some 1) v23) fun v28=>
kv (ldD .one v28 h) fun v29=>
cl (F.dF E) [v25] h fun v30 h=>
ldD .one v26 h=some v27 ∧
ldD .one v28 h=some v29 ∧
kv (aC .bad .add true v30 (.string ⟨#[32]⟩) h) fun v31=>
cl (F.dF E) [v27] h fun v32 h=>
ldD .one v28 h=some v29 ∧
kv (aC .bad .add false v31 v32 h) fun v33=>
kv (aC .bad .add true v33 (.string ⟨#[32]⟩) h) fun v34=>
kv (aC .bad .add false v34 v29 h) fun v35=>
K (.tuple #[v35,(.int .i64 0)]) h) (
K (.tuple #[(.string ⟨#[]⟩),(.int .i64 0)]) h)) ∧
(kP (aY none (.agg #[(.int .i64 0),(.string ⟨#[]⟩),(.int .i64 0),(.int .i64 0)]) h) fun v36 h=>
ldD .one v16 h=some v17 ∧
ldD .one v18 h=some v19 ∧
cl (F.lK E) [v17,a2,v19] h fun v37 h=>
kv (bJ v37 0) fun v38=>
kv (bJ v37 1) fun v39=>
kH (stD (some 4) v36 v38 h) fun _ h=>
ifV v39 (
kv (aF (some 0) v36) fun v40=>
kv (ldD .one v40 h) fun v41=>
kv (aF (some 2) v36) fun v42=>
kv (ldD .one v42 h) fun v43=>
kv (aF (some 1) v36) fun v44=>
kv (ldD .one v44 h) fun v45=>
cl (F.dF E) [v41] h fun v46 h=>
ldD .one v42 h=some v43 ∧
ldD .one v44 h=some v45 ∧
kv (aC .bad .add true v46 (.string ⟨#[32]⟩) h) fun v47=>
cl (F.dF E) [v43] h fun v48 h=>
ldD .one v44 h=some v45 ∧
kv (aC .bad .add false v47 v48 h) fun v49=>
kv (aC .bad .add true v49 (.string ⟨#[32]⟩) h) fun v50=>
kv (aC .bad .add false v50 v45 h) fun v51=>
K (.tuple #[v51,(.int .i64 0)]) h) (
K (.tuple #[(.string ⟨#[]⟩),(.int .i64 0)]) h))) (
kv (aC .bad .eql true v2 (.int .i64 8) h) fun v52=>
ifV v52 (
kv (aF (some 2) v0) fun v53=>
kv (ldD .one v53 h) fun v54=>
cl (F.gF E) [v54] h fun v55 h=>
kv (bJ v55 0) fun v56=>
kv (bJ v55 1) fun v57=>
kv (aUn .not v57) fun v58=>
ifV v58 (
K (.tuple #[(.string ⟨#[]⟩),(.int .i64 1)]) h) (
kv (aM a0) fun v59=>
kv (aF (some 2) v59) fun v60=>
kv (ldD .one v60 h) fun v61=>
kv (aF (some 4) v0) fun v62=>
kv (ldD .one v62 h) fun v63=>
cl (F.mU E) [v61,v63,v56,a2] h fun v64 h=>
kv (aUn .not v64) fun v65=>
ifV v65 (
K (.tuple #[(.string ⟨#[]⟩),(.int .i64 3)]) h) (
K (.tuple #[(.string ⟨#[]⟩),(.int .i64 0)]) h))) (
kv (aC .bad .eql true v2 (.int .i64 9) h) fun v66=>
ifV v66 (
kv (aM a0) fun v67=>
kv (aF (some 2) v67) fun v68=>
kv (ldD .one v68 h) fun v69=>
cl (F.mV E) [v69] h fun v70 h=>
kv (bJ v70 0) fun v71=>
kv (bJ v70 1) fun v72=>
kP (aY none (.agg #[(.int .i64 0),(.string ⟨#[]⟩),(.int .i64 0),(.int .i64 0)]) h) fun v73 h=>
kH (stD (some 4) v73 v71 h) fun _ h=>
ifV v72 (
kv (aF (some 0) v73) fun v74=>
kv (ldD .one v74 h) fun v75=>
kv (aF (some 1) v73) fun v76=>
kv (ldD .one v76 h) fun v77=>
cl (F.dF E) [v75] h fun v78 h=>
ldD .one v76 h=some v77 ∧
kv (aC .bad .add true v78 (.string ⟨#[32]⟩) h) fun v79=>
kv (aC .bad .add false v79 v77 h) fun v80=>
K (.tuple #[v80,(.int .i64 0)]) h) (
K (.tuple #[(.string ⟨#[]⟩),(.int .i64 0)]) h)) (
K (.tuple #[(.string ⟨#[]⟩),(.int .i64 0)]) h))))
| _=>False
def F.eV (E:FE):Spec:=fun args h K=>match args with
| [a0]=>
kv (aC (.ptr true) .eql true a0 (.pointer none) h) fun v0=>
ifV v0 (
K (.int .i64 0) h) (
kv (aM a0) fun v1=>
kv (aF (some 0) v1) fun v2=>
kv (ldD .one v2 h) fun v3=>
kv (bH .slice v3 h) fun v4=>
K v4 h)
| _=>False
def F.nV (E:FE):Spec:=fun args h K=>match args with
| [a0,a1]=>
kv (aC (.ptr true) .eql true a0 (.pointer none) h) fun v0=>
kv (gdV v0 false (some a0)) fun v1=>
kv (gdV v0 false (aM v1)) fun v2=>
kv (gdV v0 false (aF (some 0) v2)) fun v3=>
kv (gdV v0 false (ldD .one v3 h)) fun v4=>
kv (gdV v0 false (bH .slice v4 h)) fun v5=>
kv (gdV v0 false (aC .bad .geq true v5 (.int .i64 64) h)) fun v6=>
kv (bC v0 (.bool true) v6) fun v7=>
ifV v7 (
K (.tuple #[(.int .i64 0),(.bool false)]) h) (
kv (aM a0) fun v8=>
kv (aF (some 0) v8) fun v9=>
kv (ldD .one v9 h) fun v10=>
kP (dN (some (1,[(.string ⟨#[]⟩)])) 1 [(0,a1)] h) fun v11 h=>
kP (dU (some (1,16,[(.string ⟨#[]⟩)])) v10 v11 h) fun v12 h=>
kv (aM a0) fun v13=>
kv (aF (some 0) v13) fun v14=>
kH (stD (some 1) v14 v12 h) fun _ h=>
cl (F.eV E) [a0] h fun v15 h=>
kv (aC .bad .sub true v15 (.int .i64 1) h) fun v16=>
K (.tuple #[v16,(.bool true)]) h)
| _=>False
def F.fV (E:FE):Spec:=fun args h K=>match args with
| [a0,a1]=>
kv (aC (.ptr true) .eql true a0 (.pointer none) h) fun v0=>
ifV v0 (
K (.int .i64 0) h) (
kv (aM a0) fun v1=>
kv (aF (some 1) v1) fun v2=>
kv (ldD .one v2 h) fun v3=>
kv (bW (some (.string,(some (.int .i64 0)))) v3 a1 false h) fun v4=>
K v4 h)
| _=>False
def F.jF (E:FE):Spec:=fun args h K=>match args with
| [a0,a1,a2]=>
cl (F.fV E) [a0,a1] h fun v0 h=>
kv (gI true [a2,(.int .i64 0)]) fun v1=>
cl (F.eV E) [a0] h fun v2 h=>
kv (aC .bad .sub false v2 v0 h) fun v3=>
kv (gI false [v1,v3]) fun v4=>
kv (aC .bad .leq true v4 (.int .i64 0) h) fun v5=>
ifV v5 (
K (.slice none 0 0) h) (
kv (aM a0) fun v6=>
kv (aF (some 0) v6) fun v7=>
kv (ldD .one v7 h) fun v8=>
kv (aC .bad .add false v0 v4 h) fun v9=>
kv (cK (.slice 1) v8 (some v0) (some v9) none h) fun v10=>
cl (F.fC E) [v10] h fun v11 h=>
K v11 h)
| _=>False
def F.nW (E:FE):Spec:=fun args h K=>match args with
| [a0,a1,a2,a3]=>
kv (aC (.ptr true) .eql true a0 (.pointer none) h) fun v0=>
kv (gdV v0 false (some a0)) fun v1=>
kv (gdV v0 false (some a1)) fun v2=>
gdC v0 false h (fun K3=>cl (F.fV E) [v1,v2] h fun v h=>K3 v h) fun v4 h=>
kv (gdV v0 false (some a2)) fun v5=>
kv (gdV v0 false (aC .bad .neq false v4 v5 h)) fun v6=>
kv (bC v0 (.bool true) v6) fun v7=>
kv (gdV v7 false (some a3)) fun v8=>
kv (gdV v7 false (some a2)) fun v9=>
kv (gdV v7 false (aC .bad .lss false v8 v9 h)) fun v10=>
kv (bC v7 (.bool true) v10) fun v11=>
kv (gdV v11 false (some a3)) fun v12=>
kv (gdV v11 false (some a0)) fun v13=>
gdC v11 false h (fun K14=>cl (F.eV E) [v13] h fun v h=>K14 v h) fun v15 h=>
kv (gdV v11 false (aC .bad .gtr false v12 v15 h)) fun v16=>
kv (bC v11 (.bool true) v16) fun v17=>
ifV v17 (
K (.bool false) h) (
kv (aM a0) fun v18=>
kv (aF (some 1) v18) fun v19=>
kv (ldD .one v19 h) fun v20=>
kv (bW (some (.string,(some (.int .i64 0)))) v20 a1 true h) fun v21=>
kv (bJ v21 0) fun v22=>
kv (bJ v21 1) fun v23=>
kv (aUn .not v23) fun v24=>
kv (gdV v24 true (some a0)) fun v25=>
kv (gdV v24 true (aM v25)) fun v26=>
kv (gdV v24 true (aF (some 1) v26)) fun v27=>
kv (gdV v24 true (ldD .one v27 h)) fun v28=>
kv (gdV v24 true (bH .map v28 h)) fun v29=>
kv (gdV v24 true (aC .bad .geq true v29 (.int .i64 16) h)) fun v30=>
kv (bC v24 v30 (.bool false)) fun v31=>
ifV v31 (
K (.bool false) h) (
kv (aM a0) fun v32=>
kv (aF (some 1) v32) fun v33=>
kv (ldD .one v33 h) fun v34=>
kH (cU (some (.string,(some (.int .i64 0)))) v34 a1 a3 h) fun _ h=>
K (.bool true) h))
| _=>False
def F.gT (E:FE):Spec:=fun args h K=>match args with
| [a0,a1]=>
kP (aY none a1 h) fun v0 h=>
kv (aF (some 0) v0) fun v1=>
kv (ldD .one v1 h) fun v2=>
kv (aC .bad .eql true v2 (.int .i64 10) h) fun v3=>
ifV v3 (
kv (aM a0) fun v4=>
kv (aF (some 3) v4) fun v5=>
kv (ldD .one v5 h) fun v6=>
kv (aF (some 3) v0) fun v7=>
kv (ldD .one v7 h) fun v8=>
cl (F.nV E) [v6,v8] h fun v9 h=>
kv (bJ v9 0) fun v10=>
kv (bJ v9 1) fun v11=>
kv (aUn .not v11) fun v12=>
ifV v12 (
K (.tuple #[(.string ⟨#[]⟩),(.int .i64 6)]) h) (
cl (F.dF E) [v10] h fun v13 h=>
K (.tuple #[v13,(.int .i64 0)]) h)) (
kv (aC .bad .eql true v2 (.int .i64 11) h) fun v14=>
ifV v14 (
kv (aM a0) fun v15=>
kv (aF (some 3) v15) fun v16=>
kv (ldD .one v16 h) fun v17=>
kv (aF (some 2) v0) fun v18=>
kv (ldD .one v18 h) fun v19=>
kv (aF (some 4) v0) fun v20=>
kv (ldD .one v20 h) fun v21=>
cl (F.jF E) [v17,v19,v21] h fun v22 h=>
kv (bH .slice v22 h) fun v23=>
∃K24:List V→aA→Prop,(
∃(Inv25:Nat→List V→aA→Prop) (n25:Nat),Inv25 n25 [(.string ⟨#[]⟩),(.int .i64 0)] h∧∀(n25:Nat) (e25:Nat→V) (h:aA),Inv25 n25 [(e25 8),(e25 44)] h →
kv (aC .bad .lss false (e25 44) v23 h) fun v26=>
ifV v26 (
kv (aV (.slice 1) v22 (e25 44)) fun v27=>
kv (ldD .one v27 h) fun v28=>
kv (bH .str v28 h) fun v29=>
cl (F.dF E) [v29] h fun v30 h=>
kv (aC .bad .add true v30 (.string ⟨#[58]⟩) h) fun v31=>
kv (aC .bad .add false v31 v28 h) fun v32=>
kv (bH .str (e25 8) h) fun v33=>
kv (bH .str v32 h) fun v34=>
kv (aC .bad .add false v33 v34 h) fun v35=>
kv (aC .bad .gtr true v35 (.int .i64 200) h) fun v36=>
ifV v36 (
K24 [(e25 8)] h) (
kv (aC .bad .add false (e25 8) v32 h) fun v37=>
kv (aC .bad .add true (e25 44) (.int .i64 1) h) fun v38=>
∃m,m<n25∧Inv25 m [v37,v38] h)) (
K24 [(e25 8)] h))∧∀(e24:Nat→V) (h:aA),K24 [(e24 8)] h →
K (.tuple #[(e24 8),(.int .i64 0)]) h) (
kv (aF (some 3) v0) fun v39=>
kv (ldD .one v39 h) fun v40=>
cl (F.gF E) [v40] h fun v41 h=>
kv (bJ v41 0) fun v42=>
kv (bJ v41 1) fun v43=>
kv (aUn .not v43) fun v44=>
ifV v44 (
K (.tuple #[(.string ⟨#[]⟩),(.int .i64 1)]) h) (
kv (aM a0) fun v45=>
kv (aF (some 3) v45) fun v46=>
kv (ldD .one v46 h) fun v47=>
kv (aF (some 2) v0) fun v48=>
kv (ldD .one v48 h) fun v49=>
kv (aF (some 4) v0) fun v50=>
kv (ldD .one v50 h) fun v51=>
cl (F.nW E) [v47,v49,v42,v51] h fun v52 h=>
kv (aUn .not v52) fun v53=>
ifV v53 (
K (.tuple #[(.string ⟨#[]⟩),(.int .i64 3)]) h) (
K (.tuple #[(.string ⟨#[]⟩),(.int .i64 0)]) h))))
| _=>False
def F.fE (E:FE):Spec:=fun args h K=>match args with
| [a0,a1,a2]=>
kP (aY none a1 h) fun v0 h=>
kv (aC (.ptr true) .eql true a0 (.pointer none) h) fun v1=>
ifV v1 (
K (.tuple #[(.string ⟨#[]⟩),(.int .i64 3)]) h) (
kv (aM a0) fun v2=>
kv (aF (some 0) v2) fun v3=>
kv (ldD .one v3 h) fun v4=>
kv (aC .bad .eql true v4 (.int .i64 1) h) fun v5=>
kv (gdV v5 true (aF (some 0) v0)) fun v6=>
kv (gdV v5 true (ldD .one v6 h)) fun v7=>
kv (gdV v5 true (aC .bad .geq true v7 (.int .i64 3) h)) fun v8=>
kv (bC v5 v8 (.bool false)) fun v9=>
kv (gdV v9 true (aF (some 0) v0)) fun v10=>
kv (gdV v9 true (ldD .one v10 h)) fun v11=>
kv (gdV v9 true (aC .bad .leq true v11 (.int .i64 5) h)) fun v12=>
kv (bC v9 v12 (.bool false)) fun v13=>
ifV v13 (
kv (ldD (.agg 5) v0 h) fun v14=>
cl (F.lO E) [a0,v14] h fun v15 h=>
K (.tuple #[v15,(.int .i64 0)]) h) (
kv (aM a0) fun v16=>
kv (aF (some 0) v16) fun v17=>
kv (ldD .one v17 h) fun v18=>
kv (aC .bad .eql true v18 (.int .i64 2) h) fun v19=>
kv (gdV v19 true (aF (some 0) v0)) fun v20=>
kv (gdV v19 true (ldD .one v20 h)) fun v21=>
kv (gdV v19 true (aC .bad .geq true v21 (.int .i64 6) h)) fun v22=>
kv (bC v19 v22 (.bool false)) fun v23=>
kv (gdV v23 true (aF (some 0) v0)) fun v24=>
kv (gdV v23 true (ldD .one v24 h)) fun v25=>
kv (gdV v23 true (aC .bad .leq true v25 (.int .i64 9) h)) fun v26=>
kv (bC v23 v26 (.bool false)) fun v27=>
ifV v27 (
kv (ldD (.agg 5) v0 h) fun v28=>
cl (F.lN E) [a0,v28,a2] h fun v29 h=>
kv (bJ v29 0) fun v30=>
kv (bJ v29 1) fun v31=>
K (.tuple #[v30,v31]) h) (
kv (aM a0) fun v32=>
kv (aF (some 0) v32) fun v33=>
kv (ldD .one v33 h) fun v34=>
kv (aC .bad .eql true v34 (.int .i64 3) h) fun v35=>
kv (gdV v35 true (aF (some 0) v0)) fun v36=>
kv (gdV v35 true (ldD .one v36 h)) fun v37=>
kv (gdV v35 true (aC .bad .geq true v37 (.int .i64 10) h)) fun v38=>
kv (bC v35 v38 (.bool false)) fun v39=>
kv (gdV v39 true (aF (some 0) v0)) fun v40=>
kv (gdV v39 true (ldD .one v40 h)) fun v41=>
kv (gdV v39 true (aC .bad .leq true v41 (.int .i64 12) h)) fun v42=>
kv (bC v39 v42 (.bool false)) fun v43=>
ifV v43 (
kv (ldD (.agg 5) v0 h) fun v44=>
cl (F.gT E) [a0,v44] h fun v45 h=>
kv (bJ v45 0) fun v46=>
kv (bJ v45 1) fun v47=>
K (.tuple #[v46,v47]) h) (
K (.tuple #[(.string ⟨#[]⟩),(.int .i64 1)]) h))))
| _=>False
def F.nY (E:FE):Spec:=fun args h K=>match args with
| [a0,a1,a2]=>
kP (aY none a2 h) fun v0 h=>
kv (aF (some 1) v0) fun v1=>
kv (ldD .one v1 h) fun v2=>
cl (F.oA E) [a0,a1,v2] h fun v3 h=>
kv (aF (some 0) v0) fun v4=>
kv (ldD .one v4 h) fun v5=>
kv (aC .bad .eql true v5 (.int .i64 1) h) fun v6=>
kv (gdV v6 true (some v3)) fun v7=>
kv (gdV v6 true (aC (.ptr true) .neq true v7 (.pointer none) h)) fun v8=>
kv (bC v6 v8 (.bool false)) fun v9=>
∃K10:List V→aA→Prop,(
ifV v9 (
K10 [v9] h) (
kv (aF (some 0) v0) fun v11=>
kv (ldD .one v11 h) fun v12=>
kv (aC .bad .neq true v12 (.int .i64 1) h) fun v13=>
kv (gdV v13 true (some v3)) fun v14=>
kv (gdV v13 true (aC (.ptr true) .eql true v14 (.pointer none) h)) fun v15=>
kv (bC v13 v15 (.bool false)) fun v16=>
K10 [v16] h))∧∀(e10:Nat→V) (h:aA),K10 [(e10 15)] h →
ifV (e10 15) (
K (.tuple #[(.string ⟨#[]⟩),(.int .i64 3)]) h) (
kv (aF (some 0) v0) fun v17=>
kv (ldD .one v17 h) fun v18=>
kv (aC .bad .eql true v18 (.int .i64 1) h) fun v19=>
kv (gdV v19 true (some a0)) fun v20=>
kv (gdV v19 true (some a1)) fun v21=>
gdC v19 true h (fun K22=>cl (F.nX E) [v20,v21] h fun v h=>K22 v h) fun v23 h=>
kv (gdV v19 true (aC .bad .geq true v23 (.int .i64 16) h)) fun v24=>
kv (bC v19 v24 (.bool false)) fun v25=>
ifV v25 (
K (.tuple #[(.string ⟨#[]⟩),(.int .i64 6)]) h) (
kv (aF (some 0) v0) fun v26=>
kv (ldD .one v26 h) fun v27=>
kv (aC .bad .eql true v27 (.int .i64 1) h) fun v28=>
ifV v28 (
kv (aF (some 2) v0) fun v29=>
kv (ldD .one v29 h) fun v30=>
kv (aC .bad .neq true v30 (.string ⟨#[]⟩) h) fun v31=>
∃K32:List V→aA→Prop,(
ifV v31 (
kv (aF (some 2) v0) fun v33=>
kv (ldD .one v33 h) fun v34=>
kv (iQ .str v34 (.int .i64 0)) fun v35=>
kv (aC .bad .sub true v35 (.int .u8 48) h) fun v36=>
kv ((eQ (.int .i64) v36 h).map (·.1)) fun v37=>
K32 [v37] h) (
K32 [(.int .i64 1)] h))∧∀(e32:Nat→V) (h:aA),K32 [(e32 9)] h →
kv (aM a1) fun v38=>
kv (aF (some 3) v38) fun v39=>
kv (ldD .one v39 h) fun v40=>
kv (aF (some 1) v0) fun v41=>
kv (ldD .one v41 h) fun v42=>
kv (aF (some 4) v0) fun v43=>
kv (ldD .one v43 h) fun v44=>
cl (F.gC E) [v44,(e32 9)] h fun v45 h=>
ldD .one v39 h=some v40 ∧
ldD .one v41 h=some v42 ∧
kH (cU (some (.string,(some (.pointer none)))) v40 v42 v45 h) fun _ h=>
K (.tuple #[(.string ⟨#[]⟩),(.int .i64 0)]) h) (
kv (aF (some 0) v0) fun v46=>
kv (ldD .one v46 h) fun v47=>
kv (aC .bad .eql true v47 (.int .i64 2) h) fun v48=>
ifV v48 (
kv (aM a1) fun v49=>
kv (aF (some 3) v49) fun v50=>
kv (ldD .one v50 h) fun v51=>
kv (aF (some 1) v0) fun v52=>
kv (ldD .one v52 h) fun v53=>
kH (cU (some (.string,(some (.pointer none)))) v51 v53 (.pointer none) h) fun _ h=>
K (.tuple #[(.string ⟨#[]⟩),(.int .i64 0)]) h) (
kv (ldD (.agg 5) v0 h) fun v54=>
kv (aM a1) fun v55=>
kv (aF (some 2) v55) fun v56=>
kv (ldD .one v56 h) fun v57=>
cl (F.fE E) [v3,v54,v57] h fun v58 h=>
kv (bJ v58 0) fun v59=>
kv (bJ v58 1) fun v60=>
K (.tuple #[v59,v60]) h))))
| _=>False
def F.iU (E:FE):Spec:=fun args h K=>match args with
| [a0,a1]=>
kP (aY none a1 h) fun v0 h=>
kv (aC (.ptr true) .eql true a0 (.pointer none) h) fun v1=>
ifV v1 (
K (.slice none 0 0) h) (
kv (aM a0) fun v2=>
kv (aF (some 0) v2) fun v3=>
kv (ldD .one v3 h) fun v4=>
kP (gS .map v4 h) fun v5 h=>
∃(Inv6:Nat→List V→aA→Prop) (n6:Nat),Inv6 n6 [(.slice none 0 0)] h∧∀(n6:Nat) (e6:Nat→V) (h:aA),Inv6 n6 [(e6 5)] h →
dS v5 false h fun v7 h=>
kv (bJ v7 0) fun v8=>
ifV v8 (
kV (gV v5 h) h fun v9 h=>
kv (bJ v9 0) fun v10=>
kv (bJ v9 1) fun v11=>
kP (aY none (.agg #[(.string ⟨#[]⟩),(.string ⟨#[]⟩),(.bool false)]) h) fun v12 h=>
kP (aY none (.agg #[(.int .i64 0),(.int .i64 0)]) h) fun v13 h=>
kH (stD (some 3) v12 v10 h) fun _ h=>
kH (stD (some 2) v13 v11 h) fun _ h=>
kv (ldD (.agg 2) v13 h) fun v14=>
kv (ldD (.agg 2) v0 h) fun v15=>
kv (aC (.struct [(0,.int),(1,.int)]) .eql false v14 v15 h) fun v16=>
ifV v16 (
kv (ldD (.agg 3) v12 h) fun v17=>
kP (dN (some (3,[(.string ⟨#[]⟩),(.string ⟨#[]⟩),(.bool false)])) 1 [(0,v17)] h) fun v18 h=>
kP (dU (some (3,40,[(.string ⟨#[]⟩),(.string ⟨#[]⟩),(.bool false)])) (e6 5) v18 h) fun v19 h=>
∃m,m<n6∧Inv6 m [v19] h) (
∃m,m<n6∧Inv6 m [(e6 5)] h)) (
cl (F.fX E) [(e6 5)] h fun v20 h=>
K v20 h))
| _=>False
def F.iT (E:FE):Spec:=fun args h K=>match args with
| [a0,a1]=>
kP (aY none a1 h) fun v0 h=>
kv (ldD (.agg 2) v0 h) fun v1=>
cl (F.iU E) [a0,v1] h fun v2 h=>
kv (bH .slice v2 h) fun v3=>
∃(Inv4:Nat→List V→aA→Prop) (n4:Nat),Inv4 n4 [(.int .i64 0)] h∧∀(n4:Nat) (e4:Nat→V) (h:aA),Inv4 n4 [(e4 13)] h →
kv (aC .bad .lss false (e4 13) v3 h) fun v5=>
ifV v5 (
kv (aV (.slice 3) v2 (e4 13)) fun v6=>
kv (ldD (.agg 3) v6 h) fun v7=>
kP (aY none (.agg #[(.string ⟨#[]⟩),(.string ⟨#[]⟩),(.bool false)]) h) fun v8 h=>
kH (stD (some 3) v8 v7 h) fun _ h=>
kv (aM a0) fun v9=>
kv (aF (some 0) v9) fun v10=>
kv (ldD .one v10 h) fun v11=>
kv (ldD (.agg 3) v8 h) fun v12=>
kH (gL (some ((.struct false [(0,.string),(1,.string),(2,.bool)]),(some (.agg #[(.int .i64 0),(.int .i64 0)])))) v11 v12 h) fun _ h=>
kv (aC .bad .add true (e4 13) (.int .i64 1) h) fun v13=>
∃m,m<n4∧Inv4 m [v13] h) (
kv (bH .slice v2 h) fun v14=>
K v14 h)
| _=>False
def F.lS (E:FE):Spec:=fun args h K=>match args with
| [a0,a1,a2,a3]=>
kP (aY none a1 h) fun v0 h=>
kv (aC (.ptr true) .eql true a0 (.pointer none) h) fun v1=>
kv (gdV v1 false (some a0)) fun v2=>
kv (gdV v1 false (aM v2)) fun v3=>
kv (gdV v1 false (aF (some 3) v3)) fun v4=>
kv (gdV v1 false (ldD .one v4 h)) fun v5=>
kv (gdV v1 false (ldD (.agg 2) v0 h)) fun v6=>
gdC v1 false h (fun K7=>cl (F.iX E) [v5,v6] h fun v h=>K7 v h) fun v8 h=>
kv (bC v1 (.bool true) v8) fun v9=>
kv (gdV v9 false (some a2)) fun v10=>
gdC v9 false h (fun K11=>cl (F.jS E) [v10] h fun v h=>K11 v h) fun v12 h=>
kv (gdV v9 false (aUn .not v12)) fun v13=>
kv (bC v9 (.bool true) v13) fun v14=>
ifV v14 (
K (.tuple #[(.slice none 0 0),(.bool false)]) h) (
kv (aM a0) fun v15=>
kv (aF (some 2) v15) fun v16=>
kv (ldD .one v16 h) fun v17=>
kv (ldD (.agg 2) v0 h) fun v18=>
kv (bW (some ((.struct false [(0,.int),(1,.int)]),(some (.pointer none)))) v17 v18 false h) fun v19=>
kv (aC (.ptr true) .neq true v19 (.pointer none) h) fun v20=>
ifV v20 (
kv (aM v19) fun v21=>
kv (aF (some 1) v21) fun v22=>
kv (ldD .one v22 h) fun v23=>
cl (F.fC E) [v23] h fun v24 h=>
K (.tuple #[v24,(.bool true)]) h) (
kv (aM a0) fun v25=>
kv (aF (some 1) v25) fun v26=>
kv (ldD .one v26 h) fun v27=>
kv (ldD (.agg 2) v0 h) fun v28=>
cl (F.jQ E) [a2] h fun v29 h=>
ldD .one v26 h=some v27 ∧
ldD (.agg 2) v0 h=some v28 ∧
cl (F.mG E) [v27,v28,v29] h fun v30 h=>
kv (aUn .not v30) fun v31=>
ifV v31 (
K (.tuple #[(.slice none 0 0),(.bool false)]) h) (
cl (F.mZ E) [a2] h fun v32 h=>
kP (fO true none h) fun v33 h=>
kv (cA (.struct [(.slice none 0 0),(.slice none 0 0),(.int .i64 0),(.map none)] [(0,1),(1,1),(2,1),(3,1)]) [(0,v32),(2,a3),(3,v33)]) fun v34=>
kP (aY none v34 h) fun v35 h=>
kv (bH .slice a2 h) fun v36=>
∃(Inv37:Nat→List V→aA→Prop) (n37:Nat),Inv37 n37 [(.int .i64 0)] h∧∀(n37:Nat) (e37:Nat→V) (h:aA),Inv37 n37 [(e37 61)] h →
kv (aC .bad .lss false (e37 61) v36 h) fun v38=>
ifV v38 (
kv (aV (.slice 5) a2 (e37 61)) fun v39=>
kv (ldD (.agg 5) v39 h) fun v40=>
kP (aY none (.agg #[(.int .i64 0),(.string ⟨#[]⟩),(.string ⟨#[]⟩),(.string ⟨#[]⟩),(.int .i64 0)]) h) fun v41 h=>
kH (stD (some 5) v41 v40 h) fun _ h=>
kv (ldD (.agg 5) v41 h) fun v42=>
cl (F.nY E) [a0,v35,v42] h fun v43 h=>
kv (bJ v43 0) fun v44=>
kv (bJ v43 1) fun v45=>
kv (aC .bad .neq true v45 (.int .i64 0) h) fun v46=>
ifV v46 (
kv (aM a0) fun v47=>
kv (aF (some 1) v47) fun v48=>
kv (ldD .one v48 h) fun v49=>
kv (ldD (.agg 2) v0 h) fun v50=>
cl (F.iT E) [v49,v50] h fun v51 h=>
K (.tuple #[(.slice none 0 0),(.bool false)]) h) (
kv (aM v35) fun v52=>
kv (aF (some 1) v52) fun v53=>
kv (ldD .one v53 h) fun v54=>
kP (dN (some (1,[(.string ⟨#[]⟩)])) 1 [(0,v44)] h) fun v55 h=>
kP (dU (some (1,16,[(.string ⟨#[]⟩)])) v54 v55 h) fun v56 h=>
kv (aM v35) fun v57=>
kv (aF (some 1) v57) fun v58=>
kH (stD (some 1) v58 v56 h) fun _ h=>
kv (aC .bad .add true (e37 61) (.int .i64 1) h) fun v59=>
∃m,m<n37∧Inv37 m [v59] h)) (
kv (aM a0) fun v60=>
kv (aF (some 2) v60) fun v61=>
kv (ldD .one v61 h) fun v62=>
kv (ldD (.agg 2) v0 h) fun v63=>
kH (cU (some ((.struct false [(0,.int),(1,.int)]),(some (.pointer none)))) v62 v63 v35 h) fun _ h=>
kv (aM v35) fun v64=>
kv (aF (some 1) v64) fun v65=>
kv (ldD .one v65 h) fun v66=>
cl (F.fC E) [v66] h fun v67 h=>
K (.tuple #[v67,(.bool true)]) h))))
| _=>False
def F.nL (E:FE):Spec:=fun args h K=>match args with
| [a0,a1]=>
kv (bH .slice a0 h) fun v0=>
∃(Inv1:Nat→List V→aA→Prop) (n1:Nat),Inv1 n1 [(.int .i64 0)] h∧∀(n1:Nat) (e1:Nat→V) (h:aA),Inv1 n1 [(e1 8)] h →
kv (aC .bad .lss false (e1 8) v0 h) fun v2=>
ifV v2 (
kv (aV (.slice 1) a0 (e1 8)) fun v3=>
kv (ldD .one v3 h) fun v4=>
cR E.I a1 [v4] h fun v5 h=>
ifV v5 (
K (e1 8) h) (
kv (aC .bad .add true (e1 8) (.int .i64 1) h) fun v6=>
∃m,m<n1∧Inv1 m [v6] h)) (
K (.int .i64 (-1)) h)
| _=>False
def F.jC (E:FE):Spec:=fun args h K=>match args with
| [a0,a1]=>
cl (F.nL E) [a0,a1] h fun v0 h=>
kv (aC .bad .geq true v0 (.int .i64 0) h) fun v1=>
K v1 h
| _=>False
def F.mM (E:FE):Spec:=fun args h K=>match args with
| [a0,a1]=>
kP (aY none a1 h) fun v0 h=>
kv (aC (.ptr true) .eql true a0 (.pointer none) h) fun v1=>
kv (gdV v1 false (some a0)) fun v2=>
kv (gdV v1 false (aM v2)) fun v3=>
kv (gdV v1 false (aF (some 0) v3)) fun v4=>
kv (gdV v1 false (ldD .one v4 h)) fun v5=>
kv (gdV v1 false (ldD (.agg 2) v0 h)) fun v6=>
kv (gdV v1 false (bW (some ((.struct false [(0,.int),(1,.int)]),(some (.bool false)))) v5 v6 false h)) fun v7=>
kv (bC v1 (.bool true) v7) fun v8=>
ifV v8 (
K (.bool false) h) (
kv (aM a0) fun v9=>
kv (aF (some 0) v9) fun v10=>
kv (ldD .one v10 h) fun v11=>
kv (ldD (.agg 2) v0 h) fun v12=>
kH (cU (some ((.struct false [(0,.int),(1,.int)]),(some (.bool false)))) v11 v12 (.bool true) h) fun _ h=>
K (.bool true) h)
| _=>False
def F.nZ (E:FE):Spec:=fun args h K=>match args with
| [a0,a1,a2,a3]=>
kv (aM a1) fun v0=>
kv (aF (some 3) v0) fun v1=>
kv (ldD .one v1 h) fun v2=>
kv (bW (some (.string,(some (.pointer none)))) v2 a2 false h) fun v3=>
kv (gdV a3 true (some v3)) fun v4=>
kv (gdV a3 true (aC (.ptr true) .eql true v4 (.pointer none) h)) fun v5=>
kv (bC a3 v5 (.bool false)) fun v6=>
ifV v6 (
kv (aM a0) fun v7=>
kv (aF (some 0) v7) fun v8=>
kv (ldD .one v8 h) fun v9=>
kH (gL (some (.string,(some (.pointer none)))) v9 a2 h) fun _ h=>
K (.tuple #[]) h) (
ifV a3 (
kv (aM a0) fun v10=>
kv (aF (some 0) v10) fun v11=>
kv (ldD .one v11 h) fun v12=>
kH (cU (some (.string,(some (.pointer none)))) v12 a2 v3 h) fun _ h=>
K (.tuple #[]) h) (
kv (aM a1) fun v13=>
kv (aF (some 0) v13) fun v14=>
kv (ldD .one v14 h) fun v15=>
kv (bH .slice v15 h) fun v16=>
∃(Inv17:Nat→List V→aA→Prop) (n17:Nat),Inv17 n17 [(.int .i64 0)] h∧∀(n17:Nat) (e17:Nat→V) (h:aA),Inv17 n17 [(e17 24)] h →
kv (aC .bad .lss false (e17 24) v16 h) fun v18=>
ifV v18 (
kv (aV (.slice 5) v15 (e17 24)) fun v19=>
kv (ldD (.agg 5) v19 h) fun v20=>
kP (aY none (.agg #[(.int .i64 0),(.string ⟨#[]⟩),(.string ⟨#[]⟩),(.string ⟨#[]⟩),(.int .i64 0)]) h) fun v21 h=>
kH (stD (some 5) v21 v20 h) fun _ h=>
kv (aF (some 1) v21) fun v22=>
kv (ldD .one v22 h) fun v23=>
kv (aC .bad .neq false v23 a2 h) fun v24=>
kv (gdV v24 false (aF (some 0) v21)) fun v25=>
kv (gdV v24 false (ldD .one v25 h)) fun v26=>
kv (gdV v24 false (aC .bad .neq true v26 (.int .i64 4) h)) fun v27=>
kv (gdV v24 false (some v27)) fun v28=>
kv (gdV v28 true (aF (some 0) v21)) fun v29=>
kv (gdV v28 true (ldD .one v29 h)) fun v30=>
kv (gdV v28 true (aC .bad .neq true v30 (.int .i64 5) h)) fun v31=>
kv (gdV v24 false (bC v28 v31 (.bool false))) fun v32=>
kv (bC v24 (.bool true) v32) fun v33=>
ifV v33 (
kv (aC .bad .add true (e17 24) (.int .i64 1) h) fun v34=>
∃m,m<n17∧Inv17 m [v34] h) (
kv (aM v3) fun v35=>
kv (aF (some 1) v35) fun v36=>
kv (ldD .one v36 h) fun v37=>
kv (aF (some 2) v21) fun v38=>
kv (ldD .one v38 h) fun v39=>
cl (F.eM E) [v37,v39] h fun v40 h=>
kv (bJ v40 0) fun v41=>
kv (bJ v40 1) fun v42=>
ifV v42 (
kv (aM a0) fun v43=>
kv (aF (some 0) v43) fun v44=>
kv (ldD .one v44 h) fun v45=>
kv (bW (some (.string,(some (.pointer none)))) v45 a2 false h) fun v46=>
kv (aM v46) fun v47=>
kv (aF (some 1) v47) fun v48=>
kv (ldD .one v48 h) fun v49=>
kv (aF (some 2) v21) fun v50=>
kv (ldD .one v50 h) fun v51=>
cl (F.iG E) [v49,v51,v41] h fun v52 h=>
kv (aC .bad .add true (e17 24) (.int .i64 1) h) fun v53=>
∃m,m<n17∧Inv17 m [v53] h) (
kv (aM a0) fun v54=>
kv (aF (some 0) v54) fun v55=>
kv (ldD .one v55 h) fun v56=>
kv (bW (some (.string,(some (.pointer none)))) v56 a2 false h) fun v57=>
kv (aM v57) fun v58=>
kv (aF (some 1) v58) fun v59=>
kv (ldD .one v59 h) fun v60=>
kv (aF (some 2) v21) fun v61=>
kv (ldD .one v61 h) fun v62=>
cl (F.iF E) [v60,v62] h fun v63 h=>
kv (aC .bad .add true (e17 24) (.int .i64 1) h) fun v64=>
∃m,m<n17∧Inv17 m [v64] h))) (
K (.tuple #[]) h)))
| _=>False
def F.jG (E:FE):Spec:=fun args h K=>match args with
| [a0,a1,a2]=>
kP (aY none a1 h) fun v0 h=>
kv (aC (.ptr true) .eql true a0 (.pointer none) h) fun v1=>
kv (gdV v1 false (some a0)) fun v2=>
kv (gdV v1 false (aM v2)) fun v3=>
kv (gdV v1 false (aF (some 3) v3)) fun v4=>
kv (gdV v1 false (ldD .one v4 h)) fun v5=>
kv (gdV v1 false (ldD (.agg 2) v0 h)) fun v6=>
gdC v1 false h (fun K7=>cl (F.mM E) [v5,v6] h fun v h=>K7 v h) fun v8 h=>
kv (gdV v1 false (aUn .not v8)) fun v9=>
kv (bC v1 (.bool true) v9) fun v10=>
ifV v10 (
K (.bool false) h) (
kv (aM a0) fun v11=>
kv (aF (some 2) v11) fun v12=>
kv (ldD .one v12 h) fun v13=>
kv (ldD (.agg 2) v0 h) fun v14=>
kv (bW (some ((.struct false [(0,.int),(1,.int)]),(some (.pointer none)))) v13 v14 false h) fun v15=>
kv (aC (.ptr true) .eql true v15 (.pointer none) h) fun v16=>
ifV v16 (
K (.bool true) h) (
kP (fO true none h) fun v17 h=>
kv (aM a0) fun v18=>
kv (aF (some 1) v18) fun v19=>
kv (ldD .one v19 h) fun v20=>
kv (ldD (.agg 2) v0 h) fun v21=>
cl (F.iU E) [v20,v21] h fun v22 h=>
kv (bH .slice v22 h) fun v23=>
∃(Inv24:Nat→List V→aA→Prop) (n24:Nat),Inv24 n24 [(.int .i64 0)] h∧∀(n24:Nat) (e24:Nat→V) (h:aA),Inv24 n24 [(e24 39)] h →
kv (aC .bad .lss false (e24 39) v23 h) fun v25=>
ifV v25 (
kv (aV (.slice 3) v22 (e24 39)) fun v26=>
kv (ldD (.agg 3) v26 h) fun v27=>
kP (aY none (.agg #[(.string ⟨#[]⟩),(.string ⟨#[]⟩),(.bool false)]) h) fun v28 h=>
kH (stD (some 3) v28 v27 h) fun _ h=>
kv (aF (some 0) v28) fun v29=>
kv (ldD .one v29 h) fun v30=>
kv (aF (some 0) v28) fun v31=>
kv (ldD .one v31 h) fun v32=>
kv (bW (some (.string,(some (.bool false)))) v17 v32 false h) fun v33=>
kv (gdV v33 false (aF (some 2) v28)) fun v34=>
kv (gdV v33 false (ldD .one v34 h)) fun v35=>
kv (bC v33 (.bool true) v35) fun v36=>
kH (cU (some (.string,(some (.bool false)))) v17 v30 v36 h) fun _ h=>
kv (aC .bad .add true (e24 39) (.int .i64 1) h) fun v37=>
∃m,m<n24∧Inv24 m [v37] h) (
kv (aM a0) fun v38=>
kv (aF (some 1) v38) fun v39=>
kv (ldD .one v39 h) fun v40=>
kv (ldD (.agg 2) v0 h) fun v41=>
cl (F.iT E) [v40,v41] h fun v42 h=>
kv (aM a0) fun v43=>
kv (aF (some 2) v43) fun v44=>
kv (ldD .one v44 h) fun v45=>
kv (ldD (.agg 2) v0 h) fun v46=>
kH (gL (some ((.struct false [(0,.int),(1,.int)]),(some (.pointer none)))) v45 v46 h) fun _ h=>
kv (aM v15) fun v47=>
kv (aF (some 3) v47) fun v48=>
kv (ldD .one v48 h) fun v49=>
kP (gS .map v49 h) fun v50 h=>
∃(Inv51:Nat→List V→aA→Prop) (n51:Nat),Inv51 n51 [] h∧∀(n51:Nat) (e51:Nat→V) (h:aA),Inv51 n51 [] h →
dS v50 false h fun v52 h=>
kv (bJ v52 0) fun v53=>
ifV v53 (
kV (gV v50 h) h fun v54 h=>
kv (bJ v54 0) fun v55=>
ifV a2 (
kv (bW (some (.string,(some (.bool false)))) v17 v55 false h) fun v56=>
cl (F.nZ E) [a0,v15,v55,v56] h fun v57 h=>
∃m,m<n51∧Inv51 m [] h) (
∃m,m<n51∧Inv51 m [] h)) (
K (.bool true) h))))
| _=>False
def F.pE (_:FE):Spec:=fun args h K=>args=[]∧K (.bool true) h
def F.oN (E:FE):Spec:=fun args h K=>match args with
| [a0]=>
kP (aY none a0 h) fun v0 h=>
K (.func (.func (E.k 3)) #[] #[v0]) h
| _=>False
def F.jE (E:FE):Spec:=fun args h K=>match args with
| [a0]=>
kv (aC (.ptr true) .eql true a0 (.pointer none) h) fun v0=>
ifV v0 (
K (.slice none 0 0) h) (
kv (aM a0) fun v1=>
kv (aF (some 0) v1) fun v2=>
kv (ldD .one v2 h) fun v3=>
cl (F.oN E) [v3] h fun v4 h=>
cl (F.oW E) [v4] h fun v5 h=>
K v5 h)
| _=>False
def F.lH (E:FE):Spec:=fun args h K=>match args with
| [a0]=>
kv (aC (.ptr true) .eql true a0 (.pointer none) h) fun v0=>
ifV v0 (
K (.slice none 0 0) h) (
kv (aM a0) fun v1=>
kv (aF (some 1) v1) fun v2=>
kv (ldD .one v2 h) fun v3=>
cl (F.fT E) [v3] h fun v4 h=>
K v4 h)
| _=>False
def F.lI (E:FE):Spec:=fun args h K=>match args with
| [a0]=>
kv (aC (.ptr true) .eql true a0 (.pointer none) h) fun v0=>
ifV v0 (
K (.slice none 0 0) h) (
kv (aM a0) fun v1=>
kv (aF (some 2) v1) fun v2=>
kv (ldD .one v2 h) fun v3=>
cl (F.fT E) [v3] h fun v4 h=>
K v4 h)
| _=>False
def F.lJ (E:FE):Spec:=fun args h K=>match args with
| [a0]=>
kv (aC (.ptr true) .eql true a0 (.pointer none) h) fun v0=>
ifV v0 (
K (.int .i64 0) h) (
kv (aM a0) fun v1=>
kv (aF (some 3) v1) fun v2=>
kv (ldD .one v2 h) fun v3=>
K v3 h)
| _=>False
def F.oM (E:FE):Spec:=fun args h K=>match args with
| [a0]=>
kP (aY none a0 h) fun v0 h=>
K (.func (.func (E.k 4)) #[] #[v0]) h
| _=>False
def F.gU (E:FE):Spec:=fun args h K=>match args with
| [a0]=>
kv (aC (.ptr true) .eql true a0 (.pointer none) h) fun v0=>
ifV v0 (
K (.slice none 0 0) h) (
kv (aM a0) fun v1=>
kv (aF (some 1) v1) fun v2=>
kv (ldD .one v2 h) fun v3=>
cl (F.oM E) [v3] h fun v4 h=>
cl (F.oW E) [v4] h fun v5 h=>
K v5 h)
| _=>False
def F.oK (E:FE):Spec:=fun args h K=>match args with
| [a0,a1,a2]=>
kv (bH .map a0 h) fun v0=>
kv (bH .map a1 h) fun v1=>
kv (aC .bad .neq false v0 v1 h) fun v2=>
ifV v2 (
K (.bool false) h) (
kP (gS .map a0 h) fun v3 h=>
∃(Inv4:Nat→List V→aA→Prop) (n4:Nat),Inv4 n4 [] h∧∀(n4:Nat) (e4:Nat→V) (h:aA),Inv4 n4 [] h →
dS v3 false h fun v5 h=>
kv (bJ v5 0) fun v6=>
ifV v6 (
kV (gV v3 h) h fun v7 h=>
kv (bJ v7 0) fun v8=>
kv (bJ v7 1) fun v9=>
kv (bW (some (.string,(some (.pointer none)))) a1 v8 true h) fun v10=>
kv (bJ v10 0) fun v11=>
kv (bJ v10 1) fun v12=>
kv (aUn .not v12) fun v13=>
kv (gdV v13 false (some a2)) fun v14=>
kv (gdV v13 false (some v9)) fun v15=>
kv (gdV v13 false (some v11)) fun v16=>
gdC v13 false h (fun K17=>cR E.I v14 [v15,v16] h fun v h=>K17 v h) fun v18 h=>
kv (gdV v13 false (aUn .not v18)) fun v19=>
kv (bC v13 (.bool true) v19) fun v20=>
ifV v20 (
K (.bool false) h) (
∃m,m<n4∧Inv4 m [] h)) (
K (.bool true) h))
| _=>False
def F.pK (E:FE):Spec:=fun args h K=>match args with
| [a0,a1,a2]=>
kv (bH .map a0 h) fun v0=>
kv (bH .map a1 h) fun v1=>
kv (aC .bad .neq false v0 v1 h) fun v2=>
ifV v2 (
K (.bool false) h) (
kP (gS .map a0 h) fun v3 h=>
∃(Inv4:Nat→List V→aA→Prop) (n4:Nat),Inv4 n4 [] h∧∀(n4:Nat) (e4:Nat→V) (h:aA),Inv4 n4 [] h →
dS v3 false h fun v5 h=>
kv (bJ v5 0) fun v6=>
ifV v6 (
kV (gV v3 h) h fun v7 h=>
kv (bJ v7 0) fun v8=>
kv (bJ v7 1) fun v9=>
kP (aY none (.agg #[(.int .i64 0),(.int .i64 0)]) h) fun v10 h=>
kH (stD (some 2) v10 v8 h) fun _ h=>
kv (ldD (.agg 2) v10 h) fun v11=>
kv (bW (some ((.struct false [(0,.int),(1,.int)]),(some (.pointer none)))) a1 v11 true h) fun v12=>
kv (bJ v12 0) fun v13=>
kv (bJ v12 1) fun v14=>
kv (aUn .not v14) fun v15=>
kv (gdV v15 false (some a2)) fun v16=>
kv (gdV v15 false (some v9)) fun v17=>
kv (gdV v15 false (some v13)) fun v18=>
gdC v15 false h (fun K19=>cR E.I v16 [v17,v18] h fun v h=>K19 v h) fun v20 h=>
kv (gdV v15 false (aUn .not v20)) fun v21=>
kv (bC v15 (.bool true) v21) fun v22=>
ifV v22 (
K (.bool false) h) (
∃m,m<n4∧Inv4 m [] h)) (
K (.bool true) h))
| _=>False
def F.oU (E:FE):Spec:=fun args h K=>match args with
| [a0,a1]=>
kv (bH .slice a0 h) fun v0=>
kv (bH .slice a1 h) fun v1=>
kv (aC .bad .neq false v0 v1 h) fun v2=>
ifV v2 (
K (.bool false) h) (
kv (bH .slice a0 h) fun v3=>
∃(Inv4:Nat→List V→aA→Prop) (n4:Nat),Inv4 n4 [(.int .i64 0)] h∧∀(n4:Nat) (e4:Nat→V) (h:aA),Inv4 n4 [(e4 13)] h →
kv (aC .bad .lss false (e4 13) v3 h) fun v5=>
ifV v5 (
kv (aV (.slice 2) a0 (e4 13)) fun v6=>
kv (ldD (.agg 2) v6 h) fun v7=>
kv (aV (.slice 2) a1 (e4 13)) fun v8=>
kv (ldD (.agg 2) v8 h) fun v9=>
kv (aC (.struct [(0,.int),(1,.int)]) .neq false v7 v9 h) fun v10=>
ifV v10 (
K (.bool false) h) (
kv (aC .bad .add true (e4 13) (.int .i64 1) h) fun v11=>
∃m,m<n4∧Inv4 m [v11] h)) (
K (.bool true) h))
| _=>False
def F.jD (E:FE):Spec:=fun args h K=>match args with
| [a0,a1,a2]=>
kv (ldD .one a1 h) fun v0=>
cl (F.eM E) [v0,a0] h fun v1 h=>
kv (bJ v1 0) fun v2=>
kv (bJ v1 1) fun v3=>
kv (ldD .one a2 h) fun v4=>
cl (F.eM E) [v4,a0] h fun v5 h=>
kv (bJ v5 0) fun v6=>
kv (bJ v5 1) fun v7=>
kv (aC .bad .neq false v2 v6 h) fun v8=>
K v8 h
| _=>False
def F.nQ (E:FE):Spec:=fun args h K=>match args with
| [a0,a1]=>
kP (aY none a0 h) fun v0 h=>
kP (aY none a1 h) fun v1 h=>
kv (ldD .one v0 h) fun v2=>
kv (ldD .one v1 h) fun v3=>
cl (F.jE E) [v2] h fun v4 h=>
ldD .one v1 h=some v3 ∧
cl (F.jE E) [v3] h fun v5 h=>
cl (F.fU E) [v4,v5] h fun v6 h=>
kv (aUn .not v6) fun v7=>
ifV v7 (
K (.bool false) h) (
kv (ldD .one v0 h) fun v8=>
cl (F.jE E) [v8] h fun v9 h=>
cl (F.jC E) [v9,(.func (.func (E.k 2)) #[] #[v0,v1])] h fun v10 h=>
kv (aUn .not v10) fun v11=>
K v11 h)
| _=>False
def F.lM (E:FE):Spec:=fun args h K=>match args with
| [a0,a1]=>
kv (bH .slice a0 h) fun v0=>
kv (bH .slice a1 h) fun v1=>
kv (aC .bad .neq false v0 v1 h) fun v2=>
ifV v2 (
K (.bool false) h) (
kv (bH .slice a0 h) fun v3=>
∃(Inv4:Nat→List V→aA→Prop) (n4:Nat),Inv4 n4 [(.int .i64 0)] h∧∀(n4:Nat) (e4:Nat→V) (h:aA),Inv4 n4 [(e4 13)] h →
kv (aC .bad .lss false (e4 13) v3 h) fun v5=>
ifV v5 (
kv (aV (.slice 4) a0 (e4 13)) fun v6=>
kv (ldD (.agg 4) v6 h) fun v7=>
kv (aV (.slice 4) a1 (e4 13)) fun v8=>
kv (ldD (.agg 4) v8 h) fun v9=>
kv (aC (.struct [(0,.int),(1,.string),(2,.int),(3,.int)]) .neq false v7 v9 h) fun v10=>
ifV v10 (
K (.bool false) h) (
kv (aC .bad .add true (e4 13) (.int .i64 1) h) fun v11=>
∃m,m<n4∧Inv4 m [v11] h)) (
K (.bool true) h))
| _=>False
def F.nN (E:FE):Spec:=fun args h K=>match args with
| [a0,a1]=>
kv (bH .slice a0 h) fun v0=>
∃(Inv1:Nat→List V→aA→Prop) (n1:Nat),Inv1 n1 [(.int .i64 0)] h∧∀(n1:Nat) (e1:Nat→V) (h:aA),Inv1 n1 [(e1 8)] h →
kv (aC .bad .lss false (e1 8) v0 h) fun v2=>
ifV v2 (
kv (aV (.slice 1) a0 (e1 8)) fun v3=>
kv (ldD .one v3 h) fun v4=>
kv (aC .bad .eql false a1 v4 h) fun v5=>
ifV v5 (
K (e1 8) h) (
kv (aC .bad .add true (e1 8) (.int .i64 1) h) fun v6=>
∃m,m<n1∧Inv1 m [v6] h)) (
K (.int .i64 (-1)) h)
| _=>False
def F.nG (E:FE):Spec:=fun args h K=>match args with
| [a0,a1]=>
cl (F.nN E) [a0,a1] h fun v0 h=>
kv (aC .bad .geq true v0 (.int .i64 0) h) fun v1=>
K v1 h
| _=>False
def F.lP (E:FE):Spec:=fun args h K=>match args with
| [a0]=>
∃(Inv0:Nat→List V→aA→Prop) (n0:Nat),Inv0 n0 [(.string ⟨#[]⟩)] h∧∀(n0:Nat) (e0:Nat→V) (h:aA),Inv0 n0 [(e0 3)] h →
cl (F.gU E) [a0] h fun v1 h=>
cl (F.nG E) [v1,(e0 3)] h fun v2 h=>
ifV v2 (
kv (aC .bad .add true (e0 3) (.string ⟨#[120]⟩) h) fun v3=>
∃m,m<n0∧Inv0 m [v3] h) (
cl (F.eV E) [a0] h fun v4 h=>
cl (F.jF E) [a0,(e0 3),v4] h fun v5 h=>
K v5 h)
| _=>False
def F.kJ (E:FE):Spec:=fun args h K=>match args with
| [a0,a1,a2]=>
kv (ldD .one a1 h) fun v0=>
kv (aM v0) fun v1=>
kv (aF (some 3) v1) fun v2=>
kv (ldD .one v2 h) fun v3=>
kv (ldD .one a2 h) fun v4=>
kv (aM v4) fun v5=>
kv (aF (some 3) v5) fun v6=>
kv (ldD .one v6 h) fun v7=>
cl (F.fV E) [v3,a0] h fun v8 h=>
ldD .one a2 h=some v4 ∧
ldD .one v6 h=some v7 ∧
cl (F.fV E) [v7,a0] h fun v9 h=>
kv (aC .bad .neq false v8 v9 h) fun v10=>
K v10 h
| _=>False
def F.fF (E:FE):Spec:=fun args h K=>match args with
| [a0,a1]=>
kP (aY none a0 h) fun v0 h=>
kP (aY none a1 h) fun v1 h=>
kv (ldD .one v0 h) fun v2=>
kv (aC (.ptr true) .eql true v2 (.pointer none) h) fun v3=>
kv (gdV v3 false (ldD .one v1 h)) fun v4=>
kv (gdV v3 false (aC (.ptr true) .eql true v4 (.pointer none) h)) fun v5=>
kv (bC v3 (.bool true) v5) fun v6=>
kv (gdV v6 false (ldD .one v0 h)) fun v7=>
kv (gdV v6 false (aM v7)) fun v8=>
kv (gdV v6 false (aF (some 0) v8)) fun v9=>
kv (gdV v6 false (ldD .one v9 h)) fun v10=>
kv (gdV v6 false (ldD .one v1 h)) fun v11=>
kv (gdV v6 false (aM v11)) fun v12=>
kv (gdV v6 false (aF (some 0) v12)) fun v13=>
kv (gdV v6 false (ldD .one v13 h)) fun v14=>
kv (gdV v6 false (aC .bad .neq false v10 v14 h)) fun v15=>
kv (bC v6 (.bool true) v15) fun v16=>
ifV v16 (
kv (ldD .one v0 h) fun v17=>
kv (aC (.ptr true) .eql true v17 (.pointer none) h) fun v18=>
kv (gdV v18 true (ldD .one v1 h)) fun v19=>
kv (gdV v18 true (aC (.ptr true) .eql true v19 (.pointer none) h)) fun v20=>
kv (bC v18 v20 (.bool false)) fun v21=>
K v21 h) (
kv (ldD .one v0 h) fun v22=>
kv (aM v22) fun v23=>
kv (aF (some 0) v23) fun v24=>
kv (ldD .one v24 h) fun v25=>
kv (aC .bad .eql true v25 (.int .i64 1) h) fun v26=>
ifV v26 (
kv (ldD .one v0 h) fun v27=>
kv (aM v27) fun v28=>
kv (aF (some 1) v28) fun v29=>
kv (ldD .one v29 h) fun v30=>
kv (ldD .one v1 h) fun v31=>
kv (aM v31) fun v32=>
kv (aF (some 1) v32) fun v33=>
kv (ldD .one v33 h) fun v34=>
cl (F.nQ E) [v30,v34] h fun v35 h=>
K v35 h) (
kv (aC .bad .eql true v25 (.int .i64 2) h) fun v36=>
ifV v36 (
kv (ldD .one v0 h) fun v37=>
kv (aM v37) fun v38=>
kv (aF (some 2) v38) fun v39=>
kv (ldD .one v39 h) fun v40=>
kv (ldD .one v1 h) fun v41=>
kv (aM v41) fun v42=>
kv (aF (some 2) v42) fun v43=>
kv (ldD .one v43 h) fun v44=>
cl (F.lJ E) [v40] h fun v45 h=>
ldD .one v1 h=some v41 ∧
ldD .one v43 h=some v44 ∧
cl (F.lJ E) [v44] h fun v46 h=>
kv (aC .bad .eql false v45 v46 h) fun v47=>
kv (gdV v47 true (ldD .one v0 h)) fun v48=>
kv (gdV v47 true (aM v48)) fun v49=>
kv (gdV v47 true (aF (some 2) v49)) fun v50=>
kv (gdV v47 true (ldD .one v50 h)) fun v51=>
kv (gdV v47 true (ldD .one v1 h)) fun v52=>
kv (gdV v47 true (aM v52)) fun v53=>
kv (gdV v47 true (aF (some 2) v53)) fun v54=>
kv (gdV v47 true (ldD .one v54 h)) fun v55=>
gdC v47 true h (fun K56=>cl (F.lH E) [v51] h fun v h=>gdV v47 true (ldD .one v1 h)=some v52 ∧
gdV v47 true (ldD .one v54 h)=some v55 ∧
K56 v h) fun v57 h=>
gdC v47 true h (fun K58=>cl (F.lH E) [v55] h fun v h=>K58 v h) fun v59 h=>
gdC v47 true h (fun K60=>cl (F.lM E) [v57,v59] h fun v h=>K60 v h) fun v61 h=>
kv (bC v47 v61 (.bool false)) fun v62=>
kv (gdV v62 true (ldD .one v0 h)) fun v63=>
kv (gdV v62 true (aM v63)) fun v64=>
kv (gdV v62 true (aF (some 2) v64)) fun v65=>
kv (gdV v62 true (ldD .one v65 h)) fun v66=>
kv (gdV v62 true (ldD .one v1 h)) fun v67=>
kv (gdV v62 true (aM v67)) fun v68=>
kv (gdV v62 true (aF (some 2) v68)) fun v69=>
kv (gdV v62 true (ldD .one v69 h)) fun v70=>
gdC v62 true h (fun K71=>cl (F.lI E) [v66] h fun v h=>gdV v62 true (ldD .one v1 h)=some v67 ∧
gdV v62 true (ldD .one v69 h)=some v70 ∧
K71 v h) fun v72 h=>
gdC v62 true h (fun K73=>cl (F.lI E) [v70] h fun v h=>K73 v h) fun v74 h=>
gdC v62 true h (fun K75=>cl (F.lM E) [v72,v74] h fun v h=>K75 v h) fun v76 h=>
kv (bC v62 v76 (.bool false)) fun v77=>
K v77 h) (
kv (ldD .one v0 h) fun v78=>
kv (aM v78) fun v79=>
kv (aF (some 3) v79) fun v80=>
kv (ldD .one v80 h) fun v81=>
kv (ldD .one v1 h) fun v82=>
kv (aM v82) fun v83=>
kv (aF (some 3) v83) fun v84=>
kv (ldD .one v84 h) fun v85=>
cl (F.gU E) [v81] h fun v86 h=>
ldD .one v1 h=some v82 ∧
ldD .one v84 h=some v85 ∧
cl (F.gU E) [v85] h fun v87 h=>
cl (F.fU E) [v86,v87] h fun v88 h=>
kv (gdV v88 true (ldD .one v0 h)) fun v89=>
kv (gdV v88 true (aM v89)) fun v90=>
kv (gdV v88 true (aF (some 3) v90)) fun v91=>
kv (gdV v88 true (ldD .one v91 h)) fun v92=>
kv (gdV v88 true (some (.func (.func (E.k 1)) #[] #[v0,v1]))) fun v93=>
gdC v88 true h (fun K94=>cl (F.gU E) [v92] h fun v h=>K94 v h) fun v95 h=>
gdC v88 true h (fun K96=>cl (F.jC E) [v95,v93] h fun v h=>K96 v h) fun v97 h=>
kv (gdV v88 true (aUn .not v97)) fun v98=>
kv (bC v88 v98 (.bool false)) fun v99=>
kv (gdV v99 true (ldD .one v0 h)) fun v100=>
kv (gdV v99 true (aM v100)) fun v101=>
kv (gdV v99 true (aF (some 3) v101)) fun v102=>
kv (gdV v99 true (ldD .one v102 h)) fun v103=>
kv (gdV v99 true (ldD .one v1 h)) fun v104=>
kv (gdV v99 true (aM v104)) fun v105=>
kv (gdV v99 true (aF (some 3) v105)) fun v106=>
kv (gdV v99 true (ldD .one v106 h)) fun v107=>
gdC v99 true h (fun K108=>cl (F.lP E) [v103] h fun v h=>gdV v99 true (ldD .one v1 h)=some v104 ∧
gdV v99 true (ldD .one v106 h)=some v107 ∧
K108 v h) fun v109 h=>
gdC v99 true h (fun K110=>cl (F.lP E) [v107] h fun v h=>K110 v h) fun v111 h=>
gdC v99 true h (fun K112=>cl (F.fU E) [v109,v111] h fun v h=>K112 v h) fun v113 h=>
kv (bC v99 v113 (.bool false)) fun v114=>
K v114 h)))
| _=>False
def F.rL (E:FE):Spec:=fun args h K=>match args with
| [a0,a1]=>
kv (bH .slice a0 h) fun v0=>
kv (bH .slice a1 h) fun v1=>
kv (aC .bad .neq false v0 v1 h) fun v2=>
ifV v2 (
K (.bool false) h) (
kv (bH .slice a0 h) fun v3=>
∃(Inv4:Nat→List V→aA→Prop) (n4:Nat),Inv4 n4 [(.int .i64 0)] h∧∀(n4:Nat) (e4:Nat→V) (h:aA),Inv4 n4 [(e4 13)] h →
kv (aC .bad .lss false (e4 13) v3 h) fun v5=>
ifV v5 (
kv (aV (.slice 5) a0 (e4 13)) fun v6=>
kv (ldD (.agg 5) v6 h) fun v7=>
kv (aV (.slice 5) a1 (e4 13)) fun v8=>
kv (ldD (.agg 5) v8 h) fun v9=>
kv (aC (.struct [(0,.int),(1,.string),(2,.string),(3,.string),(4,.int)]) .neq false v7 v9 h) fun v10=>
ifV v10 (
K (.bool false) h) (
kv (aC .bad .add true (e4 13) (.int .i64 1) h) fun v11=>
∃m,m<n4∧Inv4 m [v11] h)) (
K (.bool true) h))
| _=>False
def F.rO (E:FE):Spec:=fun args h K=>match args with
| [a0,a1]=>
kv (aM a0) fun v0=>
kv (aF (some 2) v0) fun v1=>
kv (ldD .one v1 h) fun v2=>
kv (aM a1) fun v3=>
kv (aF (some 2) v3) fun v4=>
kv (ldD .one v4 h) fun v5=>
kv (aC .bad .eql false v2 v5 h) fun v6=>
kv (gdV v6 true (some a0)) fun v7=>
kv (gdV v6 true (aM v7)) fun v8=>
kv (gdV v6 true (aF (some 0) v8)) fun v9=>
kv (gdV v6 true (ldD .one v9 h)) fun v10=>
kv (gdV v6 true (some a1)) fun v11=>
kv (gdV v6 true (aM v11)) fun v12=>
kv (gdV v6 true (aF (some 0) v12)) fun v13=>
kv (gdV v6 true (ldD .one v13 h)) fun v14=>
gdC v6 true h (fun K15=>cl (F.rL E) [v10,v14] h fun v h=>K15 v h) fun v16 h=>
kv (bC v6 v16 (.bool false)) fun v17=>
kv (gdV v17 true (some a0)) fun v18=>
kv (gdV v17 true (aM v18)) fun v19=>
kv (gdV v17 true (aF (some 1) v19)) fun v20=>
kv (gdV v17 true (ldD .one v20 h)) fun v21=>
kv (gdV v17 true (some a1)) fun v22=>
kv (gdV v17 true (aM v22)) fun v23=>
kv (gdV v17 true (aF (some 1) v23)) fun v24=>
kv (gdV v17 true (ldD .one v24 h)) fun v25=>
gdC v17 true h (fun K26=>cl (F.fU E) [v21,v25] h fun v h=>K26 v h) fun v27 h=>
kv (bC v17 v27 (.bool false)) fun v28=>
kv (gdV v28 true (some a0)) fun v29=>
kv (gdV v28 true (aM v29)) fun v30=>
kv (gdV v28 true (aF (some 3) v30)) fun v31=>
kv (gdV v28 true (ldD .one v31 h)) fun v32=>
kv (gdV v28 true (some a1)) fun v33=>
kv (gdV v28 true (aM v33)) fun v34=>
kv (gdV v28 true (aF (some 3) v34)) fun v35=>
kv (gdV v28 true (ldD .one v35 h)) fun v36=>
gdC v28 true h (fun K37=>cl (F.oK E) [v32,v36,(.func (.func (E.k 14)) #[] #[])] h fun v h=>K37 v h) fun v38 h=>
kv (bC v28 v38 (.bool false)) fun v39=>
K v39 h
| _=>False
def F.oY (E:FE):Spec:=fun args h K=>match args with
| [a0,a1]=>
kv (aC (.ptr true) .eql true a0 (.pointer none) h) fun v0=>
kv (gdV v0 false (some a1)) fun v1=>
kv (gdV v0 false (aC (.ptr true) .eql true v1 (.pointer none) h)) fun v2=>
kv (bC v0 (.bool true) v2) fun v3=>
ifV v3 (
kv (aC (.ptr true) .eql true a0 (.pointer none) h) fun v4=>
kv (gdV v4 true (some a1)) fun v5=>
kv (gdV v4 true (aC (.ptr true) .eql true v5 (.pointer none) h)) fun v6=>
kv (bC v4 v6 (.bool false)) fun v7=>
K v7 h) (
kv (aM a0) fun v8=>
kv (aF (some 0) v8) fun v9=>
kv (ldD .one v9 h) fun v10=>
kv (aM a1) fun v11=>
kv (aF (some 0) v11) fun v12=>
kv (ldD .one v12 h) fun v13=>
cl (F.oK E) [v10,v13,(.func (.func (E.k 14)) #[] #[])] h fun v14 h=>
kv (gdV v14 true (some a0)) fun v15=>
kv (gdV v14 true (aM v15)) fun v16=>
kv (gdV v14 true (aF (some 2) v16)) fun v17=>
kv (gdV v14 true (ldD .one v17 h)) fun v18=>
kv (gdV v14 true (some a1)) fun v19=>
kv (gdV v14 true (aM v19)) fun v20=>
kv (gdV v14 true (aF (some 2) v20)) fun v21=>
kv (gdV v14 true (ldD .one v21 h)) fun v22=>
gdC v14 true h (fun K23=>cl (F.pK E) [v18,v22,(.func (.func (E.k 15)) #[] #[])] h fun v h=>K23 v h) fun v24 h=>
kv (bC v14 v24 (.bool false)) fun v25=>
kv (gdV v25 true (some a0)) fun v26=>
kv (gdV v25 true (aM v26)) fun v27=>
kv (gdV v25 true (aF (some 3) v27)) fun v28=>
kv (gdV v25 true (ldD .one v28 h)) fun v29=>
kv (gdV v25 true (some a1)) fun v30=>
kv (gdV v25 true (aM v30)) fun v31=>
kv (gdV v25 true (aF (some 3) v31)) fun v32=>
kv (gdV v25 true (ldD .one v32 h)) fun v33=>
gdC v25 true h (fun K34=>cl (F.lE E) [v29] h fun v h=>gdV v25 true (ldD .one v32 h)=some v33 ∧
K34 v h) fun v35 h=>
gdC v25 true h (fun K36=>cl (F.lE E) [v33] h fun v h=>K36 v h) fun v37 h=>
gdC v25 true h (fun K38=>cl (F.oU E) [v35,v37] h fun v h=>K38 v h) fun v39 h=>
kv (bC v25 v39 (.bool false)) fun v40=>
K v40 h)
| _=>False
def F.qZ (E:FE):Spec:=fun args h K=>match args with
| [a0]=>
kv (bH .slice a0 h) fun v0=>
kv (gI false [v0,(.int .i64 8)]) fun v1=>
kv (cK (.slice 5) a0 none (some v1) none h) fun v2=>
kP (dU (some (5,64,[(.int .i64 0),(.string ⟨#[]⟩),(.string ⟨#[]⟩),(.string ⟨#[]⟩),(.int .i64 0)])) (.slice none 0 0) v2 h) fun v3 h=>
K v3 h
| _=>False
end Go.Abs
